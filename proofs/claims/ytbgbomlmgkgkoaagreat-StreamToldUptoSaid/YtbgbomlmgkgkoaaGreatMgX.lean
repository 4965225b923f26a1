/- vector: how many blocks of a map are free; blocks are given back. vector: blocks are given back to the map. vector: pages are forgotten, and blocks are given back. blockdev: Corrupt: bytes of a block are overwritten, where no write waits. stream: blocks are dropped, and a byte of one is overwritten on the device. Statement StreamTold: the walk of the law. -/
import Derived.Test.YtbgbomlmgkgkoaaGreatMgV
import Derived.Test.YtbgbomlmgkgkoaaGreatDvC
import Derived.Deep.RegionHeld3
import Derived.BigQuiet
import Derived.BigRegion
import Derived.Deep.CutRange
import Derived.Deep.CutBlock
import Derived.Test.YtbgbomlmgkgkoaaGreatMgT
import Derived.Test.YtbgbomlmgkgkoaaGreatMgU
namespace Go.Proofs.YtbgbomlmgkgkoaaGreat.vc
open Go.RowKit Go.Proofs.YtbgbomlmgkgkoaaGreat.own Go.Proofs.YtbgbomlmgkgkoaaGreat.dv Go.Proofs.YtbgbomlmgkgkoaaGreat.po Go.Proofs.YtbgbomlmgkgkoaaGreat.arcI Go.Proofs.YtbgbomlmgkgkoaaGreat.st

/-- all below n lies as it lay, but for one block -/
structure KK (n z : Nat) (A B : World) : Prop where
  size : A.heap.size ≤ B.heap.size
  block : ∀ j, j < n → j ≠ z → B.heap[j]? = A.heap[j]?
theorem KK.refl (n z : Nat) (A : World) : KK n z A A := ⟨Nat.le_refl _, fun _ _ _ => rfl⟩
theorem KK.trans {n z : Nat} {A B C : World} (h : KK n z A B) (k : KK n z B C) : KK n z A C := ⟨Nat.le_trans h.size k.size, fun j a b => (k.block j a b).trans (h.block j a b)⟩
theorem KK.alloc {n z : Nat} {A B : World} (h : KK n z A B) (hn : n ≤ B.heap.size) (o : Obj) : KK n z A (B.alloc o) := ⟨by have := h.size; simp; omega, fun j a b => (Below.heap_alloc _ _ _ (by omega)).trans (h.block j a b)⟩
theorem KK.of_below {n z : Nat} {A B : World} (h : Below n A B) : KK n z A B := ⟨h.size, fun j a _ => h.block j a⟩
theorem KK.set {n z : Nat} {A B : World} (h : KK n z A B) (o : Nat) (v : Value) : KK n z A (B.setCell ⟨z, o, none⟩ v) := ⟨by have := h.size; simpa using this, fun j a b => (Below.heap_setCell _ _ _ _ b).trans (h.block j a b)⟩
theorem keepK_b {n z : Nat} {w : World} (hn : n ≤ w.heap.size) (W : World) (l : Nat) (o o' : Obj) (hl : w.heap.size ≤ l) (h : W.heap[l]? = some o) (hc : o.isCells = false) (hw : o.isWalk = false) : KK n z W (W.putObj l o') := KK.of_below (belowK_b hn W l o o' hl h hc hw)
theorem MIn.keep {n₀ z : Nat} {A B : World} {Bs eb frm g cap : Nat} {L : List Nat} (h : MIn n₀ A Bs eb frm g cap L) (hz : Bs ≠ z ∧ eb ≠ z ∧ g ≠ z) (hb : KK n₀ z A B) : MIn n₀ B Bs eb frm g cap L := by
  have kc : ∀ (b o : Nat), b < n₀ → b ≠ z → B.cell? ⟨b, o, none⟩ = A.cell? ⟨b, o, none⟩ := fun b o h1 h2 => by
    have e := hb.block b h1 h2
    unfold World.cell?
    rw [e]
  exact ⟨(hb.block _ h.lB hz.1).trans h.hB, (kc _ _ h.le hz.2.1).trans h.c0, (kc _ _ h.le hz.2.1).trans h.c1, fun j v hj => (kc _ _ h.lg hz.2.2).trans (h.cj j v hj), h.lB, h.le, h.lg⟩

set_option maxRecDepth 100000 in
set_option maxHeartbeats 4000000 in
theorem sp1_k (F : Fence) (n : Nat) (h7 : F.fn 113) (hro : F.round = none) (hn : 1 ≤ n) (l Bs n₀ z eb frm g cap : Nat) (hzz : Bs ≠ z ∧ eb ≠ z ∧ g ≠ z) (L : List Nat) (hL : L.length ≤ 4096) (hfl : frm ≤ L.length) (J Jx : List (RX L) → World → Prop) (W : World) (hJa : ∀ pre w o, J pre w → J pre (w.alloc o))
    (hY : ∀ pre x W, J pre W → pre.length < L.length + 1 → YieldAt F (n - 1) Tryz.prog l (encX x) W fun e W' =>
      (e = .returned (.bool true) ∧ J (pre ++ [x]) W' ∧ KK n₀ z W W') ∨ (e = .returned (.bool false) ∧ Jx (pre ++ [x]) W'))
    (hM : MIn n₀ W Bs eb frm g cap L) (hnw : n₀ ≤ W.heap.size) (h0 : J [] W) :
    CallsIn F n Tryz.prog 113 #[.func (.yield l) #[] #[], .pointer (some ⟨Bs, 0, none⟩)] W fun e W' => (∃ v, e = .returned v) ∧
      ((∃ ys, ys.map Subtype.val = runs L frm ∧ J ys W') ∨ (∃ pre, (∃ t, pre.map Subtype.val ++ t = runs L frm) ∧ Jx pre W')) := by
  have HM := Lib.hid hM
  have HY := Lib.hid hY
  have HJ := Lib.hid hJa
  have H0 := Lib.hid h0
  have kB : W.cell? ⟨Bs, 0, none⟩ = some (.pointer (some ⟨eb, 0, none⟩)) := by rw [cell_of_row _ _ _ _ _ _ hM.hB]; rfl
  have k0 := hM.c0
  clear hM hY hJa h0
  refine callsIn_of_wp Tryz.func113 rfl h7 ?_ hro
  simp only [Tryz.ntmps113, List.size_toArray, List.length_cons, List.length_nil, Nat.reduceAdd, Nat.reduceSub, Array.replicate_succ, Array.replicate_zero, List.push_toArray, List.append_toArray, List.nil_append, List.cons_append]
  gi_wp2
  gi_loopw [3] (fun i wr => ∃ (k f : Nat) (pre : List (RX L)), i = .int .i64 (k : Int) ∧ k ≤ L.length + 1 ∧ L.length ≤ k + f ∧ pre.map Subtype.val ++ runsF L f k = runs L frm ∧ J pre wr ∧ KK n₀ z W wr) (fun i _ => L.length + 1 - (intOf i).toNat)
  case atStart => exact ⟨frm, L.length + 1, [], rfl, by omega, by omega, rfl, H0.out, KK.refl _ _ _⟩
  case round =>
    obtain ⟨k, f, pre, rfl, hk, hf, hp, hJ, hb⟩ := hrel
    have HP := Lib.hid hp
    have HJ1 := Lib.hid hJ
    have HB := Lib.hid hb
    have M1 := HM.out.keep hzz hb
    have kB : wr.cell? ⟨Bs, 0, none⟩ = some (.pointer (some ⟨eb, 0, none⟩)) := by rw [cell_of_row _ _ _ _ _ _ M1.hB]; rfl
    have k1 := M1.c1
    have HM1 := Lib.hid M1
    clear hp hJ hb M1 k0
    by_cases hlt : k < L.length
    · obtain ⟨f, rfl⟩ : ∃ g, f = g + 1 := ⟨f - 1, by omega⟩
      have hre := runEnd_le L k (by omega)
      gi_wp2
      generalize wr = wo at *
      obtain ⟨e, he⟩ : ∃ e, runEnd L k = e := ⟨_, rfl⟩
      have HZ := Lib.hid (runEnd_zero L k)
      have HS := Lib.hid (runEnd_stop L k)
      rw [he] at hre HZ HS
      have HE := Lib.hid he
      have M3 := HM1.out.below ((Below.refl n₀ wo).alloc (by have := HB.out.size; omega) (.cells #[.int .i64 (k : Int), .int .i64 0] 34))
      have G3 := Lib.hid (World.alloc_heap_new wo (.cells #[.int .i64 (k : Int), .int .i64 0] 34))
      have A3 : Hid ((wo.alloc (.cells #[.int .i64 (k : Int), .int .i64 0] 34)).setCell ⟨wo.heap.size, 1, none⟩ (.int .i64 ((e - k : Nat) : Int)) = wo.alloc (.cells #[.int .i64 (k : Int), .int .i64 ((e - k : Nat) : Int)] 34)) := Lib.hid (alloc_set2 _ _ _ _ _)
      have kB : (wo.alloc (.cells #[.int .i64 (k : Int), .int .i64 0] 34)).cell? ⟨Bs, 0, none⟩ = some (.pointer (some ⟨eb, 0, none⟩)) := by rw [cell_of_row _ _ _ _ _ _ M3.hB]; rfl
      have k1 := M3.c1
      have q0 : (wo.alloc (.cells #[.int .i64 (k : Int), .int .i64 0] 34)).cell? ⟨wo.heap.size, 0, none⟩ = some (.int .i64 (k : Int)) := by rw [cell_of_row _ _ _ _ _ _ G3.out]; rfl
      have q1 : (wo.alloc (.cells #[.int .i64 (k : Int), .int .i64 0] 34)).cell? ⟨wo.heap.size, 1, none⟩ = some (.int .i64 0) := by rw [cell_of_row _ _ _ _ _ _ G3.out]; rfl
      have qf : (wo.alloc (.cells #[.int .i64 (k : Int), .int .i64 0] 34)).frozen? ⟨wo.heap.size, 1, none⟩ = false := frozen_of_row _ _ _ _ _ G3.out
      have C3 := Lib.hid M3.cj
      clear M3 he
      generalize wo.alloc (.cells #[.int .i64 (k : Int), .int .i64 0] 34) = W3 at kB k1 q0 q1 qf C3 A3 G3 ⊢
      gi_loopw [3] (fun i w2 => ∃ j : Nat, i = .int .i64 (j : Int) ∧ k ≤ j ∧ j ≤ e ∧ w2 = W3) (fun i _ => e - (intOf i).toNat)
      case atStart => exact ⟨k, rfl, Nat.le_refl _, hre.1, rfl⟩
      case round =>
        obtain ⟨j, rfl, hj1, hj2, hw2⟩ := hrel
        subst hw2
        by_cases hje : j < e
        · have hjl : j < L.length := by omega
          have kj := C3.out j 0 (HZ.out j hj1 hje)
          gi_wp2
          go_roundw
          case rel => exact ⟨j + 1, by go_num, by omega, by omega, trivial⟩
          case measure => simp [intOf]; omega
        · obtain rfl : j = e := by omega
          have e1 : IntKind.i64.wrap ((j : Int) - (k : Int)) = ((j - k : Nat) : Int) := by rw [IntWalk.i64_in _ (by omega)]; omega
          have ER : runsF L (f + 1) k = (if j - k = 0 then [] else [(k, j - k)]) ++ runsF L f (j + 1) := by
            show (if k < L.length then (if runEnd L k - k = 0 then [] else [(k, runEnd L k - k)]) ++ runsF L f (runEnd L k + 1) else []) = _
            rw [if_pos hlt, HE.out]
          have JA := Lib.hid (HJ.out pre _ (.cells #[.int .i64 (k : Int), .int .i64 ((j - k : Nat) : Int)] 34) HJ1.out)
          rw [← A3.out] at JA
          have BA : Hid (KK n₀ z W (wr.setCell ⟨wo.heap.size, 1, none⟩ (.int .i64 ((j - k : Nat) : Int)))) := Lib.hid (by
            rw [A3.out]
            exact HB.out.alloc (by have := HB.out.size; omega) _)
          by_cases hz : j = k
          · have PA : Hid (pre.map Subtype.val ++ runsF L f (j + 1) = runs L frm) := Lib.hid (by rw [← HP.out, ER, if_pos (by omega), List.nil_append])
            clear ER
            subst hz
            have e1 : IntKind.i64.wrap ((j : Int) - (j : Int)) = 0 := by rw [Int.sub_self]; rfl
            rw [Nat.sub_self] at JA BA
            obtain ⟨v, hv⟩ : ∃ v, L[j]? = some v := ⟨_, List.getElem?_eq_getElem hlt⟩
            have kj := C3.out j v hv
            have hv0 := HS.out v hv
            have hv1 : ¬ ((v : Int) = 0) := by omega
            have hv2 : decide ((v : Int) = 0) = false := decide_eq_false hv1
            clear hj1 hj2 hje
            gi_wp2
            refine ⟨fun _ h => (by cases h), ?_⟩
            gi_wp2
            go_roundw
            case rel => exact ⟨j + 1, f, pre, by go_num, by omega, by omega, PA.out, JA.out, BA.out⟩
            case measure => simp [intOf]; omega
          · have hz2 : 0 < j - k := by omega
            have hkj : k + (j - k) ≤ L.length := by omega
            have PB : Hid ((pre ++ [(⟨(k, j - k), hkj⟩ : RX L)]).map Subtype.val ++ runsF L f (j + 1) = runs L frm) := Lib.hid (by rw [← HP.out, ER, if_neg (by omega), List.map_append, List.append_assoc]; rfl)
            have hpl : pre.length < L.length + 1 := by
              have q := congrArg List.length PB.out
              have q2 := runsF_len L (L.length + 1) frm
              rw [List.length_append, List.length_map, List.length_append, List.length_singleton] at q
              unfold runs at q
              omega
            have Y := HY.out pre ⟨(k, j - k), hkj⟩ _ JA.out hpl
            obtain ⟨fn, tmps, assign, body, hy, hR⟩ := Y
            unfold encX at hy
            dsimp only at hy
            clear ER hpl
            by_cases hjl : j < L.length
            · obtain ⟨v, hv⟩ : ∃ v, L[j]? = some v := ⟨_, List.getElem?_eq_getElem hjl⟩
              have kj := C3.out j v hv
              have hv0 := HS.out v hv
              have hv1 : ¬ ((v : Int) = 0) := by omega
              have hv2 : decide ((v : Int) = 0) = false := decide_eq_false hv1
              gi_wp2
              refine hR.mono ?_
              rintro e5 W5 (⟨rfl, hJ5, hb5⟩ | ⟨rfl, hJx5⟩)
              · have J5 := Lib.hid hJ5
                have B5 := Lib.hid (BA.out.trans hb5)
                clear hJ5 hb5 hR
                gi_wp2
                go_roundw
                case rel => exact ⟨j + 1, f, pre ++ [⟨(k, j - k), hkj⟩], by go_num, by omega, by omega, PB.out, J5.out, B5.out⟩
                case measure => simp [intOf]; omega
              · have J5 := Lib.hid hJx5
                clear hJx5 hR
                gi_wp2
                refine bodyPost_ret (results_none rfl _ _ _) rfl ?_
                exact ⟨⟨_, rfl⟩, .inr ⟨_, ⟨runsF L f (j + 1), PB.out⟩, J5.out⟩⟩
            · gi_wp2
              refine hR.mono ?_
              rintro e5 W5 (⟨rfl, hJ5, hb5⟩ | ⟨rfl, hJx5⟩)
              · have J5 := Lib.hid hJ5
                have B5 := Lib.hid (BA.out.trans hb5)
                clear hJ5 hb5 hR
                gi_wp2
                go_roundw
                case rel => exact ⟨j + 1, f, pre ++ [⟨(k, j - k), hkj⟩], by go_num, by omega, by omega, PB.out, J5.out, B5.out⟩
                case measure => simp [intOf]; omega
              · have J5 := Lib.hid hJx5
                clear hJx5 hR
                gi_wp2
                refine bodyPost_ret (results_none rfl _ _ _) rfl ?_
                exact ⟨⟨_, rfl⟩, .inr ⟨_, ⟨runsF L f (j + 1), PB.out⟩, J5.out⟩⟩
    · gi_wp2
      go_end0
      refine ⟨⟨_, rfl⟩, .inl ⟨pre, ?_, HJ1.out⟩⟩
      have := HP.out
      rw [runsF_done L f k hlt, List.append_nil] at this
      exact this


theorem sp_stopsK (F : Fence) (n : Nat) (h8 : F.fn 113) (hro : F.round = none) (hn : 1 ≤ n) (Bs n₀ z eb frm g cap : Nat) (hzz : Bs ≠ z ∧ eb ≠ z ∧ g ≠ z) (L : List Nat) (hL : L.length ≤ 4096) (hfl : frm ≤ L.length) (w : World) (hn₀ : n₀ ≤ w.heap.size) (hM : MIn n₀ w Bs eb frm g cap L) :
    SeqStopsK F n Tryz.prog 113 #[.pointer (some ⟨Bs, 0, none⟩)] (encX (L := L)) (KK n₀ z) (fun ys => ys.map Subtype.val = runs L frm) (fun pre => ∃ t, pre.map Subtype.val ++ t = runs L frm) (L.length + 1) w := fun l J Jx W hW hA _ hY h0 =>
  sp1_k F n h8 hro hn l Bs n₀ z eb frm g cap hzz L hL hfl J Jx W (fun pre w o hj => hA pre w _ none hj (World.grownBy_alloc w o none) (fun r e => by cases e)) hY (hM.below (hW.mono hn₀)) (Nat.le_trans hn₀ hW.size) h0

attribute [local go_sem] Oper.semAt_some
/-- how many blocks are free -/
def sumX (l : List (Nat × Nat)) : Nat := (l.map Prod.snd).sum
def roomL (L : List Nat) (frm : Nat) : Nat := sumX (runs L frm)
theorem sumX_app (a b : List (Nat × Nat)) : sumX (a ++ b) = sumX a + sumX b := by unfold sumX; rw [List.map_append, List.sum_append]
theorem runsF_sum (L : List Nat) : ∀ (f n : Nat), n ≤ L.length → sumX (runsF L f n) ≤ L.length - n
  | 0, _, _ => Nat.zero_le _
  | f + 1, n, h => by
    show sumX (if n < L.length then (if runEnd L n - n = 0 then [] else [(n, runEnd L n - n)]) ++ runsF L f (runEnd L n + 1) else []) ≤ _
    by_cases hn : n < L.length
    · rw [if_pos hn, sumX_app]
      have hl := runEnd_le L n h
      have e : sumX (if runEnd L n - n = 0 then [] else [(n, runEnd L n - n)]) = runEnd L n - n := by
        by_cases h0 : runEnd L n - n = 0
        · rw [if_pos h0, h0]; rfl
        · rw [if_neg h0]; simp [sumX]
      rw [e]
      by_cases h2 : runEnd L n + 1 ≤ L.length
      · have := runsF_sum L f (runEnd L n + 1) h2; omega
      · rw [runsF_done L f _ (by omega)]
        show _ + 0 ≤ _
        omega
    · rw [if_neg hn]; exact Nat.zero_le _
theorem room_le (L : List Nat) (frm : Nat) (h : frm ≤ L.length) : roomL L frm ≤ L.length := by have := runsF_sum L (L.length + 1) frm h; unfold roomL runs; omega

set_option maxRecDepth 100000 in
set_option maxHeartbeats 4000000 in
theorem Room_any (x : Nat → Nat) (e0 : Nat) (w : World) (eb frm : Nat) (L : List Nat) (h : EIs x e0 w eb frm L) (hL : 0 < L.length ∧ L.length ≤ 4096) (hfl : frm ≤ L.length) :
    Calls Tryz.prog 25 #[.pointer (some ⟨eb, 0, none⟩)] w fun e w' => e = .returned (.int .i64 ((roomL L frm : Nat) : Int)) ∧ Below w.heap.size w w' := by
  obtain ⟨v, hb, hx, ho, hc⟩ := h
  rcases ho.2 with ⟨hv, hz⟩ | ⟨g, cap, cur, hv, hbg, hg, hnc, hcm, hcs, htake⟩
  · omega
  subst hv
  have leb := lt_of_block hb
  have lg := lt_of_block hg
  have c0 : w.cell? ⟨eb, 0, none⟩ = some (.int .i64 (frm : Int)) := by rw [cell_of_row _ _ _ _ _ _ hb]; rfl
  have c1 : w.cell? ⟨eb, 1, none⟩ = some (.slice (some ⟨g, 0, none⟩) L.length cap) := by rw [cell_of_row _ _ _ _ _ _ hb]; rfl
  have cj : ∀ (j v : Nat), L[j]? = some v → w.cell? ⟨g, j, none⟩ = some (.int .u8 (v : Int)) := fun j v hj => by
    have hjl := (List.getElem?_eq_some_iff.1 hj).1
    have q : (cur.toList.take (L.length * 1))[j]? = (isv L)[j]? := by rw [htake]
    rw [Nat.mul_one, List.getElem?_take, if_pos hjl] at q
    rw [cell_of_row _ _ _ _ _ _ hg, ← Array.getElem?_toList, q]
    simp [isv, hj]
  have C1 := Lib.hid c1
  have C0 := Lib.hid c0
  have CJ := Lib.hid cj
  clear hb hx ho hc hg hcs htake c0 c1 cj
  have RL := Lib.hid (room_le L frm hfl)
  refine callsIn_wide (n := 5) |>.1 ?_
  refine callsIn_of_wp_marks Tryz.func25 rfl trivial ?_ rfl
  simp only [Tryz.ntmps25, List.size_toArray, List.length_cons, List.length_nil, Nat.reduceAdd, Nat.reduceSub, Array.replicate_succ, Array.replicate_zero, List.push_toArray, List.append_toArray, List.nil_append, List.cons_append]
  gi_wp2_with fail
  refine ⟨trivial, ?_⟩
  refine (sp_in Fence.wide 4 trivial rfl eb _).mono ?_
  rintro e w' ⟨rfl, rfl⟩
  gi_wp2_with fail
  obtain ⟨n1, hn1⟩ : ∃ n1, w.heap.size = n1 := ⟨_, rfl⟩
  obtain ⟨W0, hW0⟩ : ∃ W0, (w.alloc (.cells #[.int .i64 0] 3)).alloc (.cells #[.pointer (some ⟨eb, 0, none⟩)] 39) = W0 := ⟨_, rfl⟩
  have P0 : W0.heap[n1]? = some (.cells #[.int .i64 0] 3 (0, 0)) := by
    rw [← hW0, ← hn1, Below.heap_alloc _ _ _ (by simp)]; exact World.alloc_heap_new w _
  have P1 : W0.heap[n1 + 1]? = some (.cells #[.pointer (some ⟨eb, 0, none⟩)] 39 (0, 0)) := by
    have q := World.alloc_heap_new (w.alloc (.cells #[.int .i64 0] 3)) (.cells #[.pointer (some ⟨eb, 0, none⟩)] 39)
    rw [World.size_alloc] at q
    rw [← hW0, ← hn1]; exact q
  have hsz : W0.heap.size = n1 + 2 := by rw [← hW0, ← hn1]; simp
  have hB0 : Below n1 w W0 := by
    rw [← hW0, ← hn1]
    exact ((Below.refl _ w).alloc (Nat.le_refl _) _).alloc (by simp) _
  rw [hn1]
  rw [hn1] at leb lg
  rw [hW0]
  have HN1 := Lib.hid hn1
  clear hW0 hn1
  have M0 : MIn (n1 + 2) W0 (n1 + 1) eb frm g cap L := ⟨P1, (hB0.cell (p := ⟨eb, 0, none⟩) leb).trans C0.out, (hB0.cell (p := ⟨eb, 1, none⟩) leb).trans C1.out, fun j v hj => (hB0.cell (p := ⟨g, j, none⟩) lg).trans (CJ.out j v hj), by omega, by omega, by omega⟩
  have MM := Lib.hid M0
  have Q0 := Lib.hid P0
  have BB := Lib.hid hB0
  clear P0 P1 hB0 M0
  refine wpIn_rangeFunc_ownH rfl (by omega) (gf := 113) (lb := #[.pointer (some ⟨n1 + 1, 0, none⟩)]) rfl trivial (enters_of Tryz.func113 (by kernel_rfl) rfl)
    (sp_stopsK Fence.wide 4 trivial rfl (by omega) (n1 + 1) (n1 + 2) n1 eb frm g cap ⟨by omega, by omega, by omega⟩ L hL.2 hfl W0 (by omega) MM.out) KK.trans (keepK_b (by omega)) (Below.refl _ _) (fun _ => rfl)
    (fun (pre : List (RX L)) W => W.heap[n1]? = some (.cells #[.int .i64 ((sumX (pre.map Subtype.val) : Nat) : Int)] 3 (0, 0)) ∧ sumX (pre.map Subtype.val) ≤ pre.length * 4096 ∧ Below n1 W0 W ∧ n1 + 2 ≤ W.heap.size)
    (fun _ _ _ => False)
    (fun pre A B row hs hg hr => by
      obtain ⟨h1, h2, h3, h4⟩ := hs
      refine ⟨?_, h2, h3.grown hg (by have := h3.size; omega) (fun r e => by have := (hr r e).1; omega), Nat.le_trans h4 hg.size⟩
      rw [hg.block n1 (lt_of_block h1) (fun e => by have := (hr n1 e.symm).1; omega)]
      exact h1)
    (fun c pre A B row hs hg hr => hs.elim)
    ⟨Q0.out, Nat.zero_le _, Below.refl _ _, by omega⟩
    (fun (p : RX L) a' W => ∃ Bx, n1 + 2 ≤ Bx ∧ W.heap[Bx]? = some (.cells #[.int .i64 (p.1.1 : Int), .int .i64 (p.1.2 : Int)] 34 (0, 0)) ∧ a' = ({ tmps := #[.pointer (some ⟨eb, 0, none⟩), undef, .int .i64 0, .pointer (some ⟨n1, 0, none⟩), .pointer (some ⟨Bx, 0, none⟩), .pointer (some ⟨eb, 0, none⟩), .bool true, .pointer (some ⟨eb, 0, none⟩), .func (.func 113) #[] #[.pointer (some ⟨n1 + 1, 0, none⟩)], .agg #[.int .i64 (p.1.1 : Int), .int .i64 (p.1.2 : Int)], undef, undef, undef, undef, undef], defers := [] } : Act))
    (fun p a' _ X Y row hs hg hr => by
      obtain ⟨Bx, h1, h2, h4⟩ := hs
      refine ⟨Bx, h1, ?_, h4⟩
      rw [hg.block Bx (lt_of_block h2) (fun e => by
        obtain ⟨-, o, ho, hoc⟩ := hr Bx e.symm
        rw [h2] at ho
        have := Option.some.inj ho
        subst this
        cases hoc)]
      exact h2)
    ?assign ?body ?done ?stop
  case assign =>
    rintro l pre p W K ⟨hp, ht, hB1, hW1⟩ hK
    unfold encX
    have HSZ := Lib.hid hsz
    have HP := Lib.hid hp
    have HT := Lib.hid ht
    have HB1 := Lib.hid hB1
    clear hsz hL hfl hnc hcm hp ht hB1
    gi_wp2
    have hsz := HSZ.out
    have hc := World.alloc_heap_new W (.cells #[Value.int IntKind.i64 (p.1.1 : Int), Value.int IntKind.i64 (p.1.2 : Int)] 34)
    exact hK _ _ ((KeepsOthers.alloc _ _).from _) ((KK.refl _ _ W).alloc hW1 _) ⟨(Below.heap_alloc _ _ _ (by omega)).trans HP.out, HT.out, HB1.out.alloc (by omega) _, by simp; omega⟩ ⟨W.heap.size, hW1, hc, rfl⟩
  case body =>
    rintro l pre p a' W hl ⟨r, hr⟩ ⟨hp, ht, hB1, hW1⟩ ⟨Bx, hBx, hc1, rfl⟩ hlt
    obtain ⟨⟨p1, p2⟩, hpl⟩ := p
    dsimp only at hc1 hpl ⊢
    obtain ⟨sm, hsm⟩ : ∃ sm, sumX (pre.map Subtype.val) = sm := ⟨_, rfl⟩
    rw [hsm] at hp ht
    have k1 : W.cell? ⟨n1, 0, none⟩ = some (.int .i64 (sm : Int)) := by rw [cell_of_row _ _ _ _ _ _ hp]; rfl
    have kf : W.frozen? ⟨n1, 0, none⟩ = false := frozen_of_row _ _ _ _ _ hp
    have cx1 : W.cell? ⟨Bx, 1, none⟩ = some (.int .i64 (p2 : Int)) := by rw [cell_of_row _ _ _ _ _ _ hc1]; rfl
    have hsl : sm + p2 ≤ (pre.length + 1) * 4096 := by omega
    have e1 : IntKind.i64.wrap ((sm : Int) + (p2 : Int)) = ((sm + p2 : Nat) : Int) := by rw [IntWalk.i64_in _ (by omega)]; omega
    have HP := Lib.hid hp
    have HB1 := Lib.hid hB1
    have HSL := Lib.hid hsl
    have HE : Hid (sumX ((pre ++ [(⟨(p1, p2), hpl⟩ : RX L)]).map Subtype.val) = sm + p2) := Lib.hid (by rw [List.map_append, sumX_app, hsm]; simp [sumX])
    have HSZ := Lib.hid hsz
    clear hp ht hB1 hc1 hsm hsl hr hl hlt hsz hfl hnc hcm hL
    gi_wp2
    refine ⟨KeepsOthers.setCell _ _ _ |>.from _, (KK.refl _ _ W).set _ _, ?_, ?_, HB1.out.setCell (p := ⟨n1, 0, none⟩) (Nat.le_refl _) _, by simpa using hW1⟩
    · rw [HE.out, heap_setCell_same _ n1 0 _ _ _ HP.out]; rfl
    · rw [HE.out, List.length_append]; exact HSL.out
  case done =>
    rintro dd ys W hD hys ⟨hp, -, hB, hW1⟩ hK
    have ES : sumX (ys.map Subtype.val) = roomL L frm := by rw [hys]; rfl
    rw [ES] at hp
    have k1 : W.cell? ⟨n1, 0, none⟩ = some (.int .i64 ((roomL L frm : Nat) : Int)) := by rw [cell_of_row _ _ _ _ _ _ hp]; rfl
    have HB := Lib.hid hB
    have HK := Lib.hid hK
    clear hp hB hys ES hK
    gi_wp2_with fail
    refine ⟨by simp, .inl ⟨_, _, rfl, run_takeDeferred HK.out, ?_⟩⟩
    have BF : Below n1 w (W.putObj dd (.deferred none)) := (BB.out.trans HB.out).trans (belowK_b (w := W0) (by omega) _ dd _ _ hD HK.out rfl rfl)
    refine ⟨.int .i64 ((roomL L frm : Nat) : Int), ?_, rfl, by rw [HN1.out]; exact BF⟩
    simp [results, Tryz.f25, go_sem]
  case stop =>
    rintro dd c pre W hD - h
    exact h.elim

end Go.Proofs.YtbgbomlmgkgkoaaGreat.vc

namespace Go.Proofs.YtbgbomlmgkgkoaaGreat.vc
open Go.RowKit Go.Proofs.YtbgbomlmgkgkoaaGreat.own Go.Proofs.YtbgbomlmgkgkoaaGreat.dv Go.Proofs.YtbgbomlmgkgkoaaGreat.po Go.Proofs.YtbgbomlmgkgkoaaGreat.arcI Go.Proofs.YtbgbomlmgkgkoaaGreat.st

theorem bl_dN {n : Nat} {A B : World} (h : Below n A B) (q : Nat) : Below n A (B.drewN q) := h.trans ⟨rfl, rfl, rfl, Nat.le_refl _, fun _ _ => rfl⟩
set_option maxRecDepth 100000 in
theorem own_any (w : World) (eb frm g cap len s k : Nat) (c0 : w.cell? ⟨eb, 0, none⟩ = some (.int .i64 (frm : Int))) (c1 : w.cell? ⟨eb, 1, none⟩ = some (.slice (some ⟨g, 0, none⟩) len cap)) (hk : 1 ≤ k) (hs : frm ≤ s ∧ s + k ≤ len) (hl : len ≤ 4096) :
    Calls Tryz.prog 130 #[.pointer (some ⟨eb, 0, none⟩), .agg #[.int .i64 (s : Int), .int .i64 (k : Int)]] w fun e w' => e = .returned (.bool true) ∧ Below w.heap.size w w' := by
  have leb := World.block_lt_of_cell? _ _ c0
  have hb0 : Below w.heap.size w (w.alloc (.cells #[.int .i64 (s : Int), .int .i64 (k : Int)] 34)) := (Below.refl _ w).alloc (Nat.le_refl _) _
  have T0 := Lib.hid (World.alloc_heap_new w (.cells #[.int .i64 (s : Int), .int .i64 (k : Int)] 34))
  have C0 := Lib.hid ((hb0.cell (p := ⟨eb, 0, none⟩) leb).trans c0)
  have C1 := Lib.hid ((hb0.cell (p := ⟨eb, 1, none⟩) leb).trans c1)
  have B0 := Lib.hid hb0
  clear c0 c1 hb0
  go_enter Tryz.func130, Tryz.ntmps130
  go_upto_region 1 with fail
  generalize w.alloc _ = W1 at T0 C0 C1 B0 ⊢
  have t0 : W1.cell? ⟨w.heap.size, 0, none⟩ = some (.int .i64 (s : Int)) := by rw [cell_of_row _ _ _ _ _ _ T0.out]; rfl
  have t1 : W1.cell? ⟨w.heap.size, 1, none⟩ = some (.int .i64 (k : Int)) := by rw [cell_of_row _ _ _ _ _ _ T0.out]; rfl
  have q0 := C0.out
  have q1 := C1.out
  have e1 : IntKind.i64.wrap ((len : Int) - (s : Int)) = ((len - s : Nat) : Int) := by rw [IntWalk.i64_in _ (by omega)]; omega
  have b1 : decide ((1 : Int) ≤ (k : Int)) = true := decide_eq_true (by omega)
  have b2 : decide ((frm : Int) ≤ (s : Int)) = true := decide_eq_true (by omega)
  have b3 : decide ((s : Int) < (len : Int)) = true := decide_eq_true (by omega)
  have b4 : decide ((k : Int) ≤ ((len - s : Nat) : Int)) = true := decide_eq_true (by omega)
  have n1 : decide (1 ≤ k) = true := decide_eq_true (by omega)
  have n5 : decide (0 < k) = true := decide_eq_true (by omega)
  have n2 : decide (frm ≤ s) = true := decide_eq_true (by omega)
  have n3 : decide (s < len) = true := decide_eq_true (by omega)
  have n4 : decide (k ≤ len - s) = true := decide_eq_true (by omega)
  go_quiet (fail)
  go_wp2_with fail
  go_ret
  exact ⟨rfl, bl_dN B0.out _⟩

theorem isnt_any (w : World) (tb v : Nat) (ht : w.cell? ⟨tb, 0, none⟩ = some (.int .u8 (v : Int))) :
    Calls Tryz.prog 154 #[.int .u8 (v : Int), .pointer (some ⟨tb, 0, none⟩)] w fun e w' => e = .returned (.bool false) ∧ w = w' := by
  go_enter Tryz.func154, Tryz.ntmps154
  go_wp2_with fail
  go_ret
  exact ⟨rfl, rfl⟩

set_option maxRecDepth 100000 in
theorem index_any (w : World) (g s k cap tb v : Nat) (hc : ∀ j, j < k → w.cell? ⟨g, s + j, none⟩ = some (.int .u8 (v : Int))) (ht : w.cell? ⟨tb, 0, none⟩ = some (.int .u8 (v : Int))) (hk : k ≤ 4096) :
    Calls Tryz.prog 163 #[.slice (some ⟨g, s, none⟩) k cap, .func (.func 154) #[] #[.pointer (some ⟨tb, 0, none⟩)]] w fun e w' => e = .returned (.int .i64 (-1)) ∧ w = w' := by
  have HC := Lib.hid hc
  have HT := Lib.hid ht
  clear hc ht
  go_enter Tryz.func163, Tryz.ntmps163
  go_wp2_with fail
  go_loopw [8] (fun i wr => ∃ j : Nat, i = .int .i64 (j : Int) ∧ j ≤ k ∧ wr = w) (fun i _ => k - (intOf i).toNat)
  case atStart => exact ⟨0, rfl, by omega, rfl⟩
  case round =>
    obtain ⟨j, rfl, hj, hw⟩ := hrel
    subst hw
    by_cases hlt : j < k
    · have kj := HC.out j hlt
      go_wp2_with fail
      refine (isnt_any _ tb v HT.out).mono ?_
      rintro e w' ⟨rfl, rfl⟩
      go_wp2_with fail
      go_roundw
      case rel => exact ⟨j + 1, by go_num, by omega, trivial⟩
      case measure => simp [intOf]; omega
    · obtain rfl : j = k := by omega
      go_wp2_with fail
      go_ret
      exact ⟨rfl, rfl⟩

set_option maxRecDepth 100000 in
theorem contains_any (w : World) (g s k cap tb v : Nat) (hc : ∀ j, j < k → w.cell? ⟨g, s + j, none⟩ = some (.int .u8 (v : Int))) (ht : w.cell? ⟨tb, 0, none⟩ = some (.int .u8 (v : Int))) (hk : k ≤ 4096) :
    Calls Tryz.prog 153 #[.slice (some ⟨g, s, none⟩) k cap, .func (.func 154) #[] #[.pointer (some ⟨tb, 0, none⟩)]] w fun e w' => e = .returned (.bool false) ∧ w = w' := by
  have HI := Lib.hid (index_any w g s k cap tb v hc ht hk)
  clear hc ht
  go_enter Tryz.func153, Tryz.ntmps153
  go_wp2_with fail
  refine HI.out.mono ?_
  rintro e w' ⟨rfl, rfl⟩
  go_wp2_with fail
  go_ret
  exact ⟨rfl, rfl⟩

theorem slice_win {P : Program} (W : World) (t e : TypeId) (ht : P.underlying t = some (.slice e)) (hz : ∀ w, (Go.sizeOf e).run P w = .ok 1 w) (b o len cap l h : Nat) (hlh : l < h) (hh : h ≤ cap) :
    (Instr.slice t (.slice (some ⟨b, o, none⟩) len cap) (some (.int .i64 (l : Int))) (some (.int .i64 (h : Int))) none).run P W = .ok (.slice (some ⟨b, o + l, none⟩) (h - l) (cap - l)) W := by
  have ht' : P.underlying t = some (.slice (P.elem t)) := by simp [Program.elem, ht]
  have he : P.elem t = e := by simp [Program.elem, ht]
  rw [run_slice_lh W t _ _ _ ht' .i64 .i64 _ _ (by omega) (by omega) (by omega), he, hz]
  have hne : ¬ cap = l := by omega
  by_cases h0 : l = 0
  · subst h0
    simp [Result.andThen, sliced, Addr.add, hne]
  · simp [Result.andThen, sliced, Addr.add, hne, h0]
set_option maxRecDepth 100000 in
theorem all_any (w : World) (eb g cap len s k v : Nat) (c1 : w.cell? ⟨eb, 1, none⟩ = some (.slice (some ⟨g, 0, none⟩) len cap)) (hk : 1 ≤ k) (hc : ∀ j, s ≤ j → j < s + k → w.cell? ⟨g, j, none⟩ = some (.int .u8 (v : Int))) (lg : g < w.heap.size) (hs : s + k ≤ len) (hl : len ≤ cap) (hlm : len ≤ 4096) :
    Calls Tryz.prog 131 #[.pointer (some ⟨eb, 0, none⟩), .agg #[.int .i64 (s : Int), .int .i64 (k : Int)], .int .u8 (v : Int)] w fun e w' => e = .returned (.bool true) ∧ Below w.heap.size w w' := by
  have leb := World.block_lt_of_cell? _ _ c1
  have hb0 : Below w.heap.size w (w.alloc (.cells #[.int .i64 (s : Int), .int .i64 (k : Int)] 34)) := (Below.refl _ w).alloc (Nat.le_refl _) _
  have hb1 : Below w.heap.size w ((w.alloc (.cells #[.int .i64 (s : Int), .int .i64 (k : Int)] 34)).alloc (.cells #[.int .u8 (v : Int)] 215)) := hb0.alloc (by simp) _
  have g0 := World.alloc_heap_new w (.cells #[.int .i64 (s : Int), .int .i64 (k : Int)] 34)
  have g1 := World.alloc_heap_new (w.alloc (.cells #[.int .i64 (s : Int), .int .i64 (k : Int)] 34)) (.cells #[.int .u8 (v : Int)] 215)
  rw [World.size_alloc] at g1
  have T0 := Lib.hid ((Below.heap_alloc (w.alloc (.cells #[.int .i64 (s : Int), .int .i64 (k : Int)] 34)) (.cells #[.int .u8 (v : Int)] 215) w.heap.size (by simp)).trans g0)
  have T1 := Lib.hid g1
  have C1 := Lib.hid ((hb1.cell (p := ⟨eb, 1, none⟩) leb).trans c1)
  have CC : Hid (∀ j, j < k → ((w.alloc (.cells #[.int .i64 (s : Int), .int .i64 (k : Int)] 34)).alloc (.cells #[.int .u8 (v : Int)] 215)).cell? ⟨g, s + j, none⟩ = some (.int .u8 (v : Int))) := Lib.hid (fun j hj => (hb1.cell (p := ⟨g, s + j, none⟩) lg).trans (hc (s + j) (by omega) (by omega)))
  have B0 := Lib.hid hb1
  clear c1 hb0 hb1 g0 g1 hc
  go_enter Tryz.func131, Tryz.ntmps131
  go_upto_region 1 with fail
  obtain ⟨W1, hW1⟩ : ∃ W1, (w.alloc (.cells #[.int .i64 (s : Int), .int .i64 (k : Int)] 34)).alloc (.cells #[.int .u8 (v : Int)] 215) = W1 := ⟨_, rfl⟩
  rw [hW1] at T0 T1 C1 CC B0 ⊢
  clear hW1
  have t0 : W1.cell? ⟨w.heap.size, 0, none⟩ = some (.int .i64 (s : Int)) := by rw [cell_of_row _ _ _ _ _ _ T0.out]; rfl
  have t1 : W1.cell? ⟨w.heap.size, 1, none⟩ = some (.int .i64 (k : Int)) := by rw [cell_of_row _ _ _ _ _ _ T0.out]; rfl
  have q1 := C1.out
  have v1 : W1.cell? ⟨w.heap.size + 1, 0, none⟩ = some (.int .u8 (v : Int)) := by rw [cell_of_row _ _ _ _ _ _ T1.out]; rfl
  obtain ⟨u, hu⟩ : ∃ u, s + k = u := ⟨_, rfl⟩
  have e1 : IntKind.i64.wrap ((s : Int) + (k : Int)) = (u : Int) := by rw [IntWalk.i64_in _ (by omega)]; omega
  have hsl := fun W => slice_win (P := Tryz.prog) W 119 215 Tryz.underlying119 (fun w => by kernel_rfl) g 0 len cap s u (by omega) (by omega)
  simp only [Nat.zero_add, show u - s = k by omega] at hsl
  have CA := Lib.hid (fun q => contains_any (W1.drewN q) g s k (cap - s) (w.heap.size + 1) v CC.out v1 (by omega))
  clear CC C1 T0 T1 hu
  go_quiet (first
    | (go_at_call 153; exact Calls.quiet_of_same ((CA.out _).mono (fun e w' h => ⟨h.1, h.2.symm⟩)))
    | fail)
  go_wp2_with fail
  go_ret
  exact ⟨rfl, bl_dN B0.out _⟩

/-! ### Free -/
/-- a map of blocks in memory, with its row -/
structure EP (x : Nat → Nat) (e0 : Nat) (w : World) (eb frm : Nat) (L : List Nat) (g cap : Nat) (cur : Array Value) : Prop where
  hb : w.heap[eb]? = some (.cells #[.int .i64 (frm : Int), .slice (some ⟨g, 0, none⟩) L.length cap, .slice none 0 0, .bool false] 121 (0, 0))
  hx : x eb = e0
  xg : x g = e0 + 1
  hg : w.heap[g]? = some (.cells cur 215 (0, 0))
  nc : L.length ≤ cap
  cm : cap ≤ maxLen
  cs : cur.size = cap
  tk : cur.toList.take L.length = isv L
theorem eis_parts {x : Nat → Nat} {e0 : Nat} {w : World} {eb frm : Nat} {L : List Nat} (h : EIs x e0 w eb frm L) (hL : 0 < L.length) : ∃ g cap cur, EP x e0 w eb frm L g cap cur := by
  obtain ⟨v, hb, hx, ho, hc⟩ := h
  rcases ho.2 with ⟨hv, hz⟩ | ⟨g, cap, cur, hv, -, hg, hnc, hcm, hcs, htake⟩
  · omega
  subst hv
  exact ⟨g, cap, cur, hb, hx, hc g rfl, hg, hnc, hcm, by omega, by rw [← htake, Nat.mul_one]⟩
section
variable {x x' : Nat → Nat} {e0 : Nat} {w W : World} {eb frm : Nat} {L : List Nat} {g cap : Nat} {cur : Array Value}
theorem EP.eis (h : EP x e0 w eb frm L g cap cur) : EIs x e0 w eb frm L := ⟨.slice (some ⟨g, 0, none⟩) L.length cap, h.hb, h.hx, ⟨by simp [isv], .inr ⟨g, cap, cur, rfl, Nat.zero_le _, h.hg, h.nc, h.cm, by rw [Nat.mul_one]; exact h.cs, by rw [Nat.mul_one]; exact h.tk⟩⟩, fun b hb => by
  have : b = g := by simp [Value.ownBlock] at hb; omega
  subst this
  exact h.xg⟩
theorem EP.below (h : EP x e0 w eb frm L g cap cur) (hb : Below w.heap.size w W) (hx : ∀ b, b < w.heap.size → x' b = x b) : EP x' e0 W eb frm L g cap cur :=
  ⟨(hb.block _ (lt_of_block h.hb)).trans h.hb, (hx _ (lt_of_block h.hb)).trans h.hx, (hx _ (lt_of_block h.hg)).trans h.xg, (hb.block _ (lt_of_block h.hg)).trans h.hg, h.nc, h.cm, h.cs, h.tk⟩
theorem EP.c0 (h : EP x e0 w eb frm L g cap cur) : w.cell? ⟨eb, 0, none⟩ = some (.int .i64 (frm : Int)) := by rw [cell_of_row _ _ _ _ _ _ h.hb]; rfl
theorem EP.c1 (h : EP x e0 w eb frm L g cap cur) : w.cell? ⟨eb, 1, none⟩ = some (.slice (some ⟨g, 0, none⟩) L.length cap) := by rw [cell_of_row _ _ _ _ _ _ h.hb]; rfl
theorem EP.c3 (h : EP x e0 w eb frm L g cap cur) : w.cell? ⟨eb, 3, none⟩ = some (.bool false) := by rw [cell_of_row _ _ _ _ _ _ h.hb]; rfl
theorem EP.cj (h : EP x e0 w eb frm L g cap cur) {j v : Nat} (hj : L[j]? = some v) : w.cell? ⟨g, j, none⟩ = some (.int .u8 (v : Int)) := by
  have hjl := (List.getElem?_eq_some_iff.1 hj).1
  have q : (cur.toList.take L.length)[j]? = (isv L)[j]? := by rw [h.tk]
  rw [List.getElem?_take, if_pos hjl] at q
  rw [cell_of_row _ _ _ _ _ _ h.hg, ← Array.getElem?_toList, q]
  simp [isv, hj]
theorem EP.ne (h : EP x e0 w eb frm L g cap cur) : eb ≠ g := by rintro rfl; have := h.hx; have := h.xg; omega
theorem EP.set (h : EP x e0 w eb frm L g cap cur) (f : Fr x x' (fun e => e = e0 + 1) w W) {cur' : Array Value} {s k v : Nat} (h1 : W.heap[g]? = some (.cells cur' 215 (0, 0))) (h2 : ∀ q, cur'[q]? = if s ≤ q ∧ q < s + k then some (.int .u8 (v : Int)) else cur[q]?) (hs : s + k ≤ L.length) :
    EP x' e0 W eb frm (setL L s k v) g cap cur' := by
  have leb := lt_of_block h.hb
  have lg := lt_of_block h.hg
  have hnc := h.nc
  have hcs := h.cs
  have hsz : cur'.size = cur.size := by
    have a : cur'.size ≤ cur.size := by
      have := h2 cur.size
      rw [if_neg (by omega), Array.getElem?_eq_none (Nat.le_refl _)] at this
      exact Array.getElem?_eq_none_iff.1 this
    by_cases h0 : cur.size = 0
    · omega
    · have := h2 (cur.size - 1)
      have hso : (cur'[cur.size - 1]?).isSome = true := by
        rw [this]
        split
        · rfl
        · rw [Array.getElem?_eq_getElem (by omega)]; rfl
      obtain ⟨v, hv⟩ := Option.isSome_iff_exists.1 hso
      have := (Array.getElem?_eq_some_iff.1 hv).1
      omega
  have hlen := setL_len L s k v hs
  refine ⟨?_, (f.col _ leb).trans h.hx, (f.col _ lg).trans h.xg, h1, by rw [hlen]; exact hnc, h.cm, by rw [hsz, hcs], ?_⟩
  · rw [hlen]; exact (f.old _ leb (by rw [h.hx]; omega)).trans h.hb
  · rw [hlen]
    refine List.ext_getElem? fun j => ?_
    rw [List.getElem?_take]
    have e1 : (isv (setL L s k v))[j]? = ((setL L s k v)[j]?).map (fun (n : Nat) => Value.int .u8 (n : Int)) := by unfold isv; rw [List.getElem?_map]
    have e2 : (isv L)[j]? = (L[j]?).map (fun (n : Nat) => Value.int .u8 (n : Int)) := by unfold isv; rw [List.getElem?_map]
    rw [e1, setL_get L s k v hs j]
    by_cases hj : j < L.length
    · rw [if_pos hj, Array.getElem?_toList, h2 j]
      by_cases hq : s ≤ j ∧ j < s + k
      · rw [if_pos hq, if_pos hq]; rfl
      · rw [if_neg hq, if_neg hq, ← e2, ← h.tk, List.getElem?_take, if_pos hj, Array.getElem?_toList]
    · rw [if_neg hj, if_neg (by omega), List.getElem?_eq_none (by omega)]; rfl
end

set_option maxRecDepth 100000 in
set_option maxHeartbeats 1600000 in
theorem Free_any (x : Nat → Nat) (e0 : Nat) (w : World) (eb frm s k : Nat) (L : List Nat) (h : EIs x e0 w eb frm L) (hL : 0 < L.length ∧ L.length ≤ 4096) (hk : 1 ≤ k) (hs : frm ≤ s ∧ s + k ≤ L.length) (ht : ∀ j, s ≤ j → j < s + k → L[j]? = some 1) :
    Calls Tryz.prog 114 #[.pointer (some ⟨eb, 0, none⟩), .agg #[.int .i64 (s : Int), .int .i64 (k : Int)]] w fun e w' => e = .returned (.int .i64 0) ∧ ∃ x', Fr x x' (EC e0) w w' ∧ EIs x' e0 w' eb frm (setL L s k 0) := by
  obtain ⟨g, cap, cur, ep⟩ := eis_parts h hL.1
  have hb0 : Below w.heap.size w (w.alloc (.cells #[.int .i64 (s : Int), .int .i64 (k : Int)] 34)) := (Below.refl _ w).alloc (Nat.le_refl _) _
  have B0 := Lib.hid hb0
  have E0 := Lib.hid (ep.below hb0 (x' := paint x w.heap.size (e0 + 1)) (fun b hb => paint_old hb))
  have T0 := Lib.hid (World.alloc_heap_new w (.cells #[.int .i64 (s : Int), .int .i64 (k : Int)] 34))
  have HT := Lib.hid ht
  clear h ep hb0 ht
  go_enter Tryz.func114, Tryz.ntmps114
  go_upto_region 4 with fail
  generalize w.alloc _ = W1 at B0 E0 T0 ⊢
  have F1 := Lib.hid (Fr.of_below B0.out (x := x) (C := EC e0) (c := e0 + 1) ⟨by omega, by omega⟩)
  generalize paint x w.heap.size (e0 + 1) = x1 at E0 F1
  obtain ⟨tb, htb⟩ : ∃ tb, w.heap.size = tb := ⟨_, rfl⟩
  rw [htb] at T0 ⊢
  clear htb B0
  have t0 : W1.cell? ⟨tb, 0, none⟩ = some (.int .i64 (s : Int)) := by rw [cell_of_row _ _ _ _ _ _ T0.out]; rfl
  have t1 : W1.cell? ⟨tb, 1, none⟩ = some (.int .i64 (k : Int)) := by rw [cell_of_row _ _ _ _ _ _ T0.out]; rfl
  go_wp2_with fail
  refine (own_any W1 eb frm g cap L.length s k E0.out.c0 E0.out.c1 hk hs hL.2).mono ?_
  rintro e w2 ⟨rfl, hb2⟩
  have E2 := Lib.hid (E0.out.below hb2 (x' := paint x1 W1.heap.size (e0 + 1)) (fun b hb => paint_old hb))
  have F2 := Lib.hid (F1.out.trans (Fr.of_below hb2 (x := x1) (C := EC e0) (c := e0 + 1) ⟨by omega, by omega⟩))
  have T2 := Lib.hid ((hb2.block _ (lt_of_block T0.out)).trans T0.out)
  have t0 : w2.cell? ⟨tb, 0, none⟩ = some (.int .i64 (s : Int)) := by rw [cell_of_row _ _ _ _ _ _ T2.out]; rfl
  have t1 : w2.cell? ⟨tb, 1, none⟩ = some (.int .i64 (k : Int)) := by rw [cell_of_row _ _ _ _ _ _ T2.out]; rfl
  clear hb2 E0 F1 T0
  generalize paint x1 W1.heap.size (e0 + 1) = x2 at E2 F2
  go_wp2_with fail
  refine (all_any w2 eb g cap L.length s k 1 E2.out.c1 hk (fun j h1 h2 => E2.out.cj (HT.out j h1 h2)) (lt_of_block E2.out.hg) hs.2 E2.out.nc hL.2).mono ?_
  rintro e w3 ⟨rfl, hb3⟩
  have E3 := Lib.hid (E2.out.below hb3 (x' := paint x2 w2.heap.size (e0 + 1)) (fun b hb => paint_old hb))
  have F3 := Lib.hid (F2.out.trans (Fr.of_below hb3 (x := x2) (C := EC e0) (c := e0 + 1) ⟨by omega, by omega⟩))
  have T3 := Lib.hid ((hb3.block _ (lt_of_block T2.out)).trans T2.out)
  have t0 : w3.cell? ⟨tb, 0, none⟩ = some (.int .i64 (s : Int)) := by rw [cell_of_row _ _ _ _ _ _ T3.out]; rfl
  have t1 : w3.cell? ⟨tb, 1, none⟩ = some (.int .i64 (k : Int)) := by rw [cell_of_row _ _ _ _ _ _ T3.out]; rfl
  have c3 := E3.out.c3
  clear hb3 E2 F2 T2
  generalize paint x2 w2.heap.size (e0 + 1) = x3 at E3 F3
  go_wp2_with fail
  refine (set_any x3 (e0 + 1) w3 eb g cap L.length s k 0 cur E3.out.c1 E3.out.hg E3.out.xg E3.out.ne hs.2 (by rw [E3.out.cs]; exact E3.out.nc) hL.2).mono ?_
  rintro e w4 ⟨⟨r, rfl⟩, x4, cur4, f4, g4, q4⟩
  have E4 := Lib.hid (E3.out.set f4 g4 q4 hs.2)
  have F4 := Lib.hid (F3.out.trans (f4.mono (fun e (he : e = e0 + 1) => show EC e0 e from ⟨by omega, by omega⟩)))
  clear f4 g4 q4 E3 F3
  go_wp2_with fail
  go_ret
  exact ⟨rfl, x4, F4.out, E4.out.eis⟩

end Go.Proofs.YtbgbomlmgkgkoaaGreat.vc

namespace Go.Proofs.YtbgbomlmgkgkoaaGreat.vc
open Go.RowKit Go.Proofs.YtbgbomlmgkgkoaaGreat.own Go.Proofs.YtbgbomlmgkgkoaaGreat.dv Go.Proofs.YtbgbomlmgkgkoaaGreat.po Go.Proofs.YtbgbomlmgkgkoaaGreat.arcI Go.Proofs.YtbgbomlmgkgkoaaGreat.st

/-! ### the plain law: a page is forgotten -/
theorem dropR_eq (s : St) (k : Int) (hp : s.pins k = 0) : (dropR s k).1 = dropS s k := by
  unfold dropR
  by_cases h : k ∈ s.once ∨ k ∈ s.often ∨ k ∈ s.wonce ∨ k ∈ s.woften
  · rw [if_pos h, if_neg (by omega)]
  · rw [if_neg h]
    have h1 : k ∉ s.once := fun a => h (.inl a)
    have h2 : k ∉ s.often := fun a => h (.inr (.inl a))
    have h3 : k ∉ s.wonce := fun a => h (.inr (.inr (.inl a)))
    have h4 : k ∉ s.woften := fun a => h (.inr (.inr (.inr a)))
    unfold dropS
    rw [List.erase_of_not_mem h1, List.erase_of_not_mem h2, List.erase_of_not_mem h3, List.erase_of_not_mem h4]
def dropP (s : Sp) (k : Int) : Sp := { s with arc := dropS s.arc k, pg := arcI.updP s.pg k none, cnt := if (s.pg k).isSome then s.cnt - 1 else s.cnt }
theorem not_in_erase {l : List Int} {k : Int} (h : l.count k ≤ 1) : k ∉ l.erase k := fun hm => by
  have a := List.count_pos_iff.2 hm
  rw [List.count_erase_self] at a
  omega
theorem dropP_ok {s : Sp} {D : Dev} (h : SpOk s D) (k : Int) (hp : ∀ j, s.arc.pins j = 0) : SpOk (dropP s k) D := by
  have one := h.arc.one k
  have n1 : k ∉ s.arc.once.erase k := not_in_erase (by omega)
  have n2 : k ∉ s.arc.often.erase k := not_in_erase (by omega)
  have keep : ∀ j p, (dropP s k).pg j = some p → j ≠ k ∧ s.pg j = some p := fun j p hj => by
    have hj : arcI.updP s.pg k none j = some p := hj
    by_cases e : j = k
    · subst e; rw [arcI.updP_same] at hj; cases hj
    · rw [arcI.updP_other _ _ e] at hj; exact ⟨e, hj⟩
  refine ⟨dropS_ok _ _ h.arc (hp k), fun j => ?_, fun j p hj => ?_, ?_, fun j p hj => h.text j p (keep j p hj).2, fun j p hj => h.key j p (keep j p hj).2, fun j p hj => h.clean j p (keep j p hj).2, h.dev, h.up, h.dead⟩
  · show (arcI.updP s.pg k none j).isSome = true ↔ (j ∈ s.arc.once.erase k ∨ j ∈ s.arc.often.erase k)
    by_cases e : j = k
    · subst e
      rw [arcI.updP_same]
      exact ⟨fun a => (by cases a), fun a => (a.elim n1 n2).elim⟩
    · rw [arcI.updP_other _ _ e, h.held j, List.mem_erase_of_ne e, List.mem_erase_of_ne e]
  · show p.pins = s.arc.pins j
    exact h.pins j p (keep j p hj).2
  · show (if (s.pg k).isSome then s.cnt - 1 else s.cnt) = (s.arc.once.erase k ++ s.arc.often.erase k).length
    have hc := h.cnt
    unfold heldL at hc
    rw [List.length_append] at hc ⊢
    by_cases hh : (s.pg k).isSome = true
    · rw [if_pos hh]
      rcases (h.held k).1 hh with m | m
      · have c1 := List.count_pos_iff.2 m
        have m2 : k ∉ s.arc.often := fun a => by have := List.count_pos_iff.2 a; omega
        have q := arcI.len_erase m
        rw [List.erase_of_not_mem m2]
        omega
      · have c1 := List.count_pos_iff.2 m
        have m2 : k ∉ s.arc.once := fun a => by have := List.count_pos_iff.2 a; omega
        have q := arcI.len_erase m
        rw [List.erase_of_not_mem m2]
        omega
    · rw [if_neg hh]
      have m1 : k ∉ s.arc.once := fun a => hh ((h.held k).2 (.inl a))
      have m2 : k ∉ s.arc.often := fun a => hh ((h.held k).2 (.inr a))
      rw [List.erase_of_not_mem m1, List.erase_of_not_mem m2]
      exact hc
theorem vinv_drop {s : Sp} {D : Dev} {m nb : Nat} (h : VInv s D m nb) (k : Int) : VInv (dropP s k) D m nb ∧ ∀ j, j ≠ k → cont (dropP s k) D j = cont s D j :=
  ⟨⟨dropP_ok h.ok k h.pins, h.nb, h.ns, fun j => h.pins j, h.pinned, h.most⟩, fun j hj => by
    unfold cont
    show (match arcI.updP s.pg k none j with | some p => p.text | none => D.now j) = _
    rw [arcI.updP_other _ _ hj]
    rfl⟩
/-- so many pages from a block on are forgotten -/
def dropL (A : Sp) (s : Nat) : Nat → Sp
  | 0 => A
  | j + 1 => dropP (dropL A s j) ((s + j : Nat) : Int)
theorem vinv_dropL {A : Sp} {D : Dev} {m nb : Nat} (h : VInv A D m nb) (s : Nat) : ∀ j, VInv (dropL A s j) D m nb ∧ ∀ i : Int, ¬ ((s : Int) ≤ i ∧ i < (s : Int) + (j : Int)) → cont (dropL A s j) D i = cont A D i
  | 0 => ⟨h, fun _ _ => rfl⟩
  | j + 1 => by
    obtain ⟨a, b⟩ := vinv_dropL h s j
    obtain ⟨c, d⟩ := vinv_drop a ((s + j : Nat) : Int)
    exact ⟨c, fun i hi => (d i (by omega)).trans (b i (by omega))⟩

/-! ### Drop -/
/-- what stands while pages are forgotten -/
structure DW (x : Nat → Nat) (c0 d0 : Nat) (w : World) (sb db eb tb s k cb pm : Nat) (blk : Int → Nat) (A : Sp) (D : Dev) (N : Nat) (wr : World) : Prop where
  ex : ∃ x', Fr x x' (PC c0 d0) w wr ∧ TI x' c0 wr sb db eb cb pm blk A N ∧ DIs x' d0 wr db D N ∧ wr.heap[tb]? = some (.cells #[.int .i64 (s : Int), .int .i64 (k : Int)] 34 (0, 0)) ∧ x' tb = c0 + 6
section
variable {x : Nat → Nat} {c0 d0 : Nat} {w : World} {sb db eb tb s k cb pm : Nat} {blk : Int → Nat} {A : Sp} {D : Dev} {N : Nat} {wr : World}
theorem DW.drewN (h : DW x c0 d0 w sb db eb tb s k cb pm blk A D N wr) (q : Nat) : DW x c0 d0 w sb db eb tb s k cb pm blk A D N (wr.drewN q) := by
  obtain ⟨x', f, t, d, b, c⟩ := h
  exact ⟨x', arcI.Fr.drewN f q, t.drewN q, d.drewN q, b, c⟩
theorem DW.box (h : DW x c0 d0 w sb db eb tb s k cb pm blk A D N wr) : wr.cell? ⟨tb, 0, none⟩ = some (.int .i64 (s : Int)) ∧ wr.cell? ⟨tb, 1, none⟩ = some (.int .i64 (k : Int)) := by
  obtain ⟨x', f, t, d, b, c⟩ := h
  exact ⟨by rw [cell_of_row _ _ _ _ _ _ b]; rfl, by rw [cell_of_row _ _ _ _ _ _ b]; rfl⟩
theorem DW.cells (h : DW x c0 d0 w sb db eb tb s k cb pm blk A D N wr) : wr.cell? ⟨sb, 0, none⟩ = some (.pointer (some ⟨db, 0, none⟩)) ∧ wr.cell? ⟨sb, 2, none⟩ = some (.pointer (some ⟨cb, 0, none⟩)) ∧ wr.cell? ⟨sb, 3, none⟩ = some (.map (some pm)) ∧ wr.cell? ⟨sb, 11, none⟩ = some (.bool A.dead) := by
  obtain ⟨x', f, t, d, b, c⟩ := h
  obtain ⟨a0, -, a2, a3, -, -, -, -, -, -, -, a11, -⟩ := t.cells
  exact ⟨a0, a2, a3, a11⟩
theorem DW.look (h : DW x c0 d0 w sb db eb tb s k cb pm blk A D N wr) {no : Int} (hk : KOK no) : ∀ q, (Instr.lookup 112 (.map (some pm)) (.int .i64 no) false).run Tryz.prog (wr.drewN q) = .ok ((pgF A.pg blk no).getD (.pointer none)) (wr.drewN q) := fun q => by
  obtain ⟨x', f, t, d, b, c⟩ := h
  exact (t.drewN q).vm.look hk (t := 112) (e := 113) Tryz.underlying112 (z := .pointer none) (by kernel_rfl)
theorem DW.page (h : DW x c0 d0 w sb db eb tb s k cb pm blk A D N wr) {no : Int} (hk : KOK no) {p : Pg} (hp : A.pg no = some p) : wr.cell? ⟨blk no, 2, none⟩ = some (.int .i64 p.pins) := by
  obtain ⟨x', f, t, d, b, c⟩ := h
  exact (t.page hk hp).2.2.1
theorem DW.Blocks (h : DW x c0 d0 w sb db eb tb s k cb pm blk A D N wr) : Calls Tryz.prog 56 #[.pointer (some ⟨db, 0, none⟩)] wr fun e w' => e = .returned (.int .i64 (D.nb : Nat)) ∧ wr = w' := by
  obtain ⟨x', f, t, d, b, c⟩ := h
  exact Blocks_any x' d0 db D N wr d
/-- a page goes from the map -/
theorem DW.del (h : DW x c0 d0 w sb db eb tb s k cb pm blk A D N wr) (hcd : c0 + 9 < d0 ∨ d0 + 2 < c0) {no : Int} (hk : KOK no) : ∃ w', (Builtin.delete_ #[112, 3] 0 #[.map (some pm), .int .i64 no]).run Tryz.prog wr = .ok (.tuple #[]) w' ∧ DW x c0 d0 w sb db eb tb s k cb pm blk { A with pg := arcI.updP A.pg no none, cnt := if (A.pg no).isSome then A.cnt - 1 else A.cnt } D N w' := by
  obtain ⟨x', f, t, d, b, c⟩ := h
  obtain ⟨w', hr, f2, hz, hold, t2⟩ := t.del hk (t := 112) (e := 113) Tryz.underlying112 0
  have hne : tb ≠ pm := fun e => by have a := t.xp; rw [← e, c] at a; omega
  exact ⟨w', hr, x', f.trans (f2.mono (fun e he => PD_PC c0 d0 e (.inl he))), t2, d.frame f2 (fun e he hc => by have := hc.1; have h1 := he.1; have h2 := he.2; omega), (hold _ (lt_of_block b) hne).trans b, c⟩
/-- and from the cache -/
theorem DW.drop (h : DW x c0 d0 w sb db eb tb s k cb pm blk A D N wr) (hcd : c0 + 9 < d0 ∨ d0 + 2 < c0) (ok : Ok A.arc) {no : Int} (hk : KOK no) (hp : A.arc.pins no = 0) :
    Calls Tryz.prog 57 #[.pointer (some ⟨cb, 0, none⟩), .int .i64 no] wr fun e w' => (∃ v, e = .returned v) ∧ DW x c0 d0 w sb db eb tb s k cb pm blk { A with arc := dropS A.arc no } D N w' := by
  obtain ⟨x', f, t, d, b, c⟩ := h
  refine (Drop_any x' c0 cb A.arc N wr no hk t.ci ok (by omega)).mono ?_
  rintro e w' ⟨rfl, x2, f2, c2⟩
  rw [dropR_eq _ _ hp] at c2
  have n : ∀ e, CD c0 e → PD c0 d0 e := CD_PD c0 d0
  exact ⟨⟨_, rfl⟩, x2, f.trans (f2.mono (fun e he => PD_PC c0 d0 e (n e he))), t.arc f2 c2 (Nat.le_refl _) rfl, d.frame f2 (fun e he hc => by have h1 := he.1; have h2 := he.2; have h3 := hc.1; have h4 := hc.2; omega), (f2.old _ (lt_of_block b) (by rw [c]; intro hc; have := hc.2; omega)).trans b, (f2.col _ (lt_of_block b)).trans c⟩
end

set_option maxRecDepth 100000 in
set_option maxHeartbeats 3200000 in
theorem PDrop_d (x : Nat → Nat) (c0 d0 : Nat) (w : World) (sb db eb N m nb s k : Nat) (A : Sp) (D : Dev) (hS : SIs x c0 d0 w sb db eb A D N) (hI : VInv A D m nb) (hcd : c0 + 9 < d0 ∨ d0 + 2 < c0) (hk : 1 ≤ k) (hs : s + k ≤ nb) (hnb : nb ≤ 4096) :
    Calls Tryz.prog 17 #[.pointer (some ⟨sb, 0, none⟩), .agg #[.int .i64 (s : Int), .int .i64 (k : Int)]] w fun e w' => e = .returned (.int .i64 0) ∧ ∃ x', Fr x x' (PC c0 d0) w w' ∧ SIs x' c0 d0 w' sb db eb (dropL A s k) D N := by
  obtain ⟨⟨cb, pm, blk, t⟩, d⟩ := hS
  have hb0 : Below w.heap.size w (w.alloc (.cells #[.int .i64 (s : Int), .int .i64 (k : Int)] 34)) := (Below.refl _ w).alloc (Nat.le_refl _) _
  have W0 : Hid (DW x c0 d0 w sb db eb w.heap.size s k cb pm blk A D N (w.alloc (.cells #[.int .i64 (s : Int), .int .i64 (k : Int)] 34))) := Lib.hid ⟨paint x w.heap.size (c0 + 6), Fr.of_below hb0 PC6, t.below hb0 (fun b hb => paint_old hb), d.below hb0 (fun b hb => paint_old hb), World.alloc_heap_new w _, paint_new (Nat.le_refl _)⟩
  have HI := Lib.hid hI
  have dead := hI.ok.dead
  have enb := hI.nb
  clear t d hI hb0
  go_enter Tryz.func17, Tryz.ntmps17
  go_upto_region 1 with fail
  generalize w.alloc _ = W1 at W0 ⊢
  obtain ⟨tb, htb⟩ : ∃ tb, w.heap.size = tb := ⟨_, rfl⟩
  rw [htb] at W0 ⊢
  clear htb
  have t0 := W0.out.box.1
  have t1 := W0.out.box.2
  obtain ⟨a0, a2, a3, a11⟩ := W0.out.cells
  rw [dead] at a11
  have HD := Lib.hid dead
  have BL : Hid (∀ q, Calls Tryz.prog 56 #[.pointer (some ⟨db, 0, none⟩)] (W1.drewN q) fun e w' => e = .returned (.int .i64 (nb : Int)) ∧ W1.drewN q = w') := Lib.hid (fun q => by have z := (W0.out.drewN q).Blocks; rw [enb] at z; exact z)
  clear dead enb
  have e1 : IntKind.i64.wrap ((nb : Int) - (s : Int)) = ((nb - s : Nat) : Int) := by rw [IntWalk.i64_in _ (by omega)]; omega
  have b1 : decide ((k : Int) < 1) = false := decide_eq_false (by omega)
  have b2 : decide ((s : Int) < 0) = false := decide_eq_false (by omega)
  have b3 : decide ((nb : Int) ≤ (s : Int)) = false := decide_eq_false (by omega)
  have b4 : decide (((nb - s : Nat) : Int) < (k : Int)) = false := decide_eq_false (by omega)
  have n1 : decide (k < 1) = false := decide_eq_false (by omega)
  have n5 : decide (k = 0) = false := decide_eq_false (by omega)
  have n6 : decide (k ≤ 0) = false := decide_eq_false (by omega)
  have n2 : decide (s < 0) = false := decide_eq_false (by omega)
  have n3 : decide (nb ≤ s) = false := decide_eq_false (by omega)
  have n4 : decide (nb - s < k) = false := decide_eq_false (by omega)
  go_upto_region 5 with fail
  go_quiet (first
    | (go_at_call 56; exact Calls.quiet_of_same ((BL.out _).mono (fun e w' h => ⟨h.1, h.2.symm⟩)))
    | fail)
  have W2 := Lib.hid (W0.out.drewN nq)
  clear W0 BL t0 t1 a0 a2 a3 a11 e1 b1 b2 b3 b4 n1 n2 n3 n4 n5 n6
  generalize W1.drewN nq = wr at W2 ⊢
  have t1 := W2.out.box.2
  go_wp2_with fail
  clear t1
  go_loopw [50] (fun i wr => ∃ j : Nat, i = .int .i64 (j : Int) ∧ j ≤ k ∧ DW x c0 d0 w sb db eb tb s k cb pm blk A D N wr) (fun i _ => k - (intOf i).toNat)
  case atStart => exact ⟨0, rfl, by omega, W2.out⟩
  case round =>
    obtain ⟨j, rfl, hj, hW⟩ := hrel
    have W3 := Lib.hid hW
    clear hW W2
    have t0 := W3.out.box.1
    have t1 := W3.out.box.2
    obtain ⟨-, -, a3, -⟩ := W3.out.cells
    by_cases hlt : j < k
    · have e1 : IntKind.i64.wrap ((s : Int) + (j : Int)) = ((s + j : Nat) : Int) := by rw [IntWalk.i64_in _ (by omega)]; omega
      have hko : KOK ((s + j : Nat) : Int) := WalkArith.wf_i64 (by omega)
      have hl := W3.out.look hko
      obtain ⟨no, hno⟩ : ∃ no : Int, ((s + j : Nat) : Int) = no := ⟨_, rfl⟩
      rw [hno] at e1 hko hl
      rcases hp : A.pg no with _ | p
      · have e2 : (pgF A.pg blk no).getD (.pointer none) = .pointer none := by unfold pgF; rw [hp]; rfl
        rw [e2] at hl
        clear e2 hp hno hko
        go_upto_region 10 with fail
        go_quiet (fail)
        clear hl
        go_wp2_with fail
        go_roundw
        case rel => exact ⟨j + 1, by go_num, by omega, W3.out.drewN _⟩
        case measure => simp [intOf]; omega
      · have e2 : (pgF A.pg blk no).getD (.pointer none) = .pointer (some ⟨blk no, 0, none⟩) := by unfold pgF; rw [hp]; rfl
        rw [e2] at hl
        have p2 := W3.out.page hko hp
        rw [HI.out.ok.pins no p hp, HI.out.pins no] at p2
        clear e2 hp hno hko
        go_upto_region 10 with fail
        go_quiet (fail)
        clear hl
        go_wp2_with fail
        go_roundw
        case rel => exact ⟨j + 1, by go_num, by omega, W3.out.drewN _⟩
        case measure => simp [intOf]; omega
    · obtain rfl : j = k := by omega
      clear hlt hj
      go_wp2_with fail
      clear t0 t1 a3
      go_loopw [74] (fun i wr => ∃ q : Nat, i = .int .i64 (q : Int) ∧ q ≤ j ∧ DW x c0 d0 w sb db eb tb s j cb pm blk (dropL A s q) D N wr) (fun i _ => j - (intOf i).toNat)
      case atStart => exact ⟨0, rfl, by omega, W3.out⟩
      case round =>
        obtain ⟨q, rfl, hq, hW⟩ := hrel
        have W4 := Lib.hid hW
        clear hW W3
        by_cases hlt : q < j
        · have e1 : IntKind.i64.wrap ((s : Int) + (q : Int)) = ((s + q : Nat) : Int) := by rw [IntWalk.i64_in _ (by omega)]; omega
          have hko : KOK ((s + q : Nat) : Int) := WalkArith.wf_i64 (by omega)
          go_upto_region 17 with fail
          obtain ⟨no, hno⟩ : ∃ no : Int, ((s + q : Nat) : Int) = no := ⟨_, rfl⟩
          rw [hno] at e1 hko
          have HNO := Lib.hid hno
          clear hno
          refine wp_region_still_tail 8 (by kernel_rfl) (by kernel_rfl) ?_
          simp only [List.take_succ_cons, List.take_zero, List.drop_succ_cons, List.drop_zero]
          have W5 : Hid (DW x c0 d0 w sb db eb tb s j cb pm blk (dropL A s q) D N ({ wr with drawn := wr.drawn + 1 } : World)) := Lib.hid (W4.out.drewN 1)
          clear W4
          generalize ({ wr with drawn := wr.drawn + 1 } : World) = w5 at W5 ⊢
          have t0 := W5.out.box.1
          obtain ⟨-, -, a3, -⟩ := W5.out.cells
          obtain ⟨w6, hdel, h6⟩ := W5.out.del hcd hko
          have W6 := Lib.hid h6
          clear h6 W5
          repeat still_step
          refine wpStill_nil ?_
          go_wp2_with fail
          clear hdel t0 a3
          refine wp_region_still_tail 8 (by kernel_rfl) (by kernel_rfl) ?_
          simp only [List.take_succ_cons, List.take_zero, List.drop_succ_cons, List.drop_zero]
          have W7 : Hid (DW x c0 d0 w sb db eb tb s j cb pm blk _ D N ({ w6 with drawn := w6.drawn + 1 } : World)) := Lib.hid (W6.out.drewN 1)
          clear W6
          generalize ({ w6 with drawn := w6.drawn + 1 } : World) = w7 at W7 ⊢
          have t0 := W7.out.box.1
          obtain ⟨-, a2, -, -⟩ := W7.out.cells
          have OKA := Lib.hid ((vinv_dropL HI.out s q).1)
          repeat still_step
          refine wpStill_nil ?_
          go_wp2_with fail
          refine (W7.out.drop hcd OKA.out.ok.arc hko (OKA.out.pins no)).mono ?_
          rintro e w8 ⟨⟨v, rfl⟩, h8⟩
          have W8 : Hid (DW x c0 d0 w sb db eb tb s j cb pm blk (dropL A s (q + 1)) D N w8) := Lib.hid (by
            show DW x c0 d0 w sb db eb tb s j cb pm blk (dropP (dropL A s q) ((s + q : Nat) : Int)) D N w8
            rw [HNO.out]; exact h8)
          clear h8 W7 t0 a2
          go_wp2_with fail
          go_roundw
          case rel => exact ⟨q + 1, by go_num, by omega, W8.out⟩
          case measure => simp [intOf]; omega
        · obtain rfl : q = j := by omega
          have t1 := W4.out.box.2
          go_wp2_with fail
          go_ret
          obtain ⟨x', f, t, d, -, -⟩ := W4.out.ex
          exact ⟨rfl, x', f, ⟨⟨_, _, _, t⟩, d⟩⟩
theorem PDrop_any (x : Nat → Nat) (c0 d0 : Nat) (w : World) (sb db eb N m nb s k : Nat) (V : Int → ByteArray) (hv : VV x c0 d0 w sb db eb N m nb V) (hcd : c0 + 9 < d0 ∨ d0 + 2 < c0) (hk : 1 ≤ k) (hs : s + k ≤ nb) (hnb : nb ≤ 4096) :
    Calls Tryz.prog 17 #[.pointer (some ⟨sb, 0, none⟩), .agg #[.int .i64 (s : Int), .int .i64 (k : Int)]] w fun e w' => e = .returned (.int .i64 0) ∧ ∃ x' V', Fr x x' (PC c0 d0) w w' ∧ VV x' c0 d0 w' sb db eb N m nb V' ∧ ∀ i : Int, ¬ ((s : Int) ≤ i ∧ i < (s : Int) + (k : Int)) → V' i = V i := by
  obtain ⟨A, D, hS, hI, hV⟩ := hv
  refine (PDrop_d x c0 d0 w sb db eb N m nb s k A D hS hI hcd hk hs hnb).mono ?_
  rintro e w' ⟨rfl, x', f, s'⟩
  obtain ⟨v1, v2⟩ := vinv_dropL hI s k
  exact ⟨rfl, x', _, f, ⟨_, _, s', v1, fun _ => rfl⟩, fun i hi => (v2 i hi).trans (hV i)⟩

end Go.Proofs.YtbgbomlmgkgkoaaGreat.vc

namespace Go.Proofs.YtbgbomlmgkgkoaaGreat.dv
open Go.RowKit Go.Proofs.YtbgbomlmgkgkoaaGreat.own Go.Proofs.YtbgbomlmgkgkoaaGreat.po

def overB (s : ByteArray) (a : Nat) (t : ByteArray) : ByteArray := s.extract 0 a ++ t ++ s.extract (a + t.size) s.size
def Dev.corrupt (D : Dev) (n : Int) (u : ByteArray) : Dev := { D with safe := fun k => if k = n then some u else D.safe k }

set_option maxRecDepth 100000 in
theorem over_any (W : World) (ab tb a : Nat) (t s : ByteArray) (h1 : W.cell? ⟨ab, 0, none⟩ = some (.int .i64 (a : Int))) (h2 : W.cell? ⟨tb, 0, none⟩ = some (.string t)) (hs : a + t.size ≤ s.size) (hs2 : s.size ≤ 4096) :
    Calls Tryz.prog 59 #[.string s, .pointer (some ⟨ab, 0, none⟩), .pointer (some ⟨tb, 0, none⟩)] W fun e w' => e = .returned (.string (overB s a t)) ∧ Below W.heap.size W w' := by
  obtain ⟨p, hp⟩ : ∃ p, a + t.size = p := ⟨_, rfl⟩
  obtain ⟨zs, hzs⟩ : ∃ zs, s.size = zs := ⟨_, rfl⟩
  obtain ⟨zt, hzt⟩ : ∃ zt, t.size = zt := ⟨_, rfl⟩
  have e1 : IntKind.i64.wrap ((a : Int) + (zt : Int)) = (p : Int) := by rw [IntWalk.i64_in _ (by omega)]; omega
  have q1 : (s.extract 0 a).size = a := by rw [ByteArray.size_extract]; omega
  have q2 : (s.extract 0 a ++ t).size = p := by rw [ByteArray.size_append, q1]; omega
  have q3 : (s.extract p zs).size = zs - p := by rw [ByteArray.size_extract]; omega
  have c1 : ¬ 9223372036854775807 < (s.extract 0 a).size + t.size := by omega
  have c2 : ¬ 9223372036854775807 < (s.extract 0 a ++ t).size + (s.extract p zs).size := by omega
  have HO : Hid (overB s a t = s.extract 0 a ++ t ++ s.extract p zs) := Lib.hid (by unfold overB; rw [hp, hzs])
  have i1 : (0 : Int) ≤ (a : Int) := by omega
  have i2 : (a : Int) ≤ (zs : Int) := by omega
  have i3 : (0 : Int) ≤ (p : Int) := by omega
  have i4 : (p : Int) ≤ (zs : Int) := by omega
  have i5 : a ≤ zs := by omega
  have i6 : p ≤ zs := by omega
  have HP := Lib.hid hp
  clear hp hs hs2
  go_enter Tryz.func59, Tryz.ntmps59
  go_upto_region 1 with fail
  go_quiet (fail)
  go_wp2_with fail
  go_ret
  exact ⟨by rw [HO.out]; rfl, ⟨rfl, rfl, rfl, Nat.le_refl _, fun _ _ => rfl⟩⟩

theorem fr_undrew {x x' : Nat → Nat} {C : Nat → Prop} {w w' : World} (h : Fr x x' C w.drew w') : Fr x x' C w w' := ⟨h.os, h.tape, h.output, h.size, h.col, h.new, h.old⟩
/-- a text is put into the map of what is safe -/
theorem DIs.safe {x : Nat → Nat} {d0 : Nat} {w : World} {db : Nat} {D : Dev} {N : Nat} {sm : Nat} (h : DIs x d0 w db D N) (hsm : w.cell? ⟨db, 6, none⟩ = some (.map (some sm))) {n : Int} (hn : KOK n) (u : ByteArray) (hN : N + 1 < maxLen) :
    ∃ w', (Instr.mapUpdate 152 (.map (some sm)) (.int .i64 n) (.string u)).run Tryz.prog w = .ok () w' ∧ Fr x x (DC d0) w w' ∧ DIs x d0 w' db (D.corrupt n u) (N + 1) ∧ w'.heap[db]? = w.heap[db]? := by
  obtain ⟨sm', cv, m, Nm, h0, hx, hs, hm, hr, hc, b1, b2, b3⟩ := h
  have e0 : w.cell? ⟨db, 6, none⟩ = some (.map (some sm')) := by rw [cell_of_row w db _ _ _ _ h0]; rfl
  obtain rfl : sm' = sm := by
    have q := e0.symm.trans hsm
    have q2 := Option.some.inj q
    injection q2 with q3
    exact Option.some.inj q3
  obtain ⟨w5, hrun, hm5, ht5⟩ := hm.store hn (t := 152) (e := 9) Tryz.underlying152 (textV u) (by omega)
  have hg5 := ht5.grown
  have hz := mapTurned_size ht5
  have old : ∀ b, b < w.heap.size → b ≠ sm' → w5.heap[b]? = w.heap[b]? := fun b hb hne => hg5.block b hb (fun e => hne (Option.some.inj e))
  have e1 : (fun j => ((D.corrupt n u).safe j).map textV) = updO (fun j => (D.safe j).map textV) n (some (textV u)) := by
    funext j
    show ((if j = n then some u else D.safe j).map textV) = _
    by_cases hj : j = n
    · subst hj; rw [if_pos rfl, updO_same]; rfl
    · rw [if_neg hj, updO_other _ _ hj]
  have hdb : w5.heap[db]? = w.heap[db]? := old db (lt_of_block h0) (fun e => by have a := hx; rw [e, hs] at a; omega)
  refine ⟨w5, hrun, Fr.same hg5.os hg5.tape hg5.output hz (fun b hb hC => old b hb (fun e => hC (by rw [e, hs]; exact ⟨by omega, by omega⟩))), ⟨sm', cv, _, Nm + 1, hdb.trans h0, hx, hs, by rw [e1]; exact hm5, hr.kept hg5 (.inr (fun e => by have a := hc sm' e; rw [hs] at a; omega)), hc, Nat.le_succ_of_le b1, Nat.le_succ_of_le b2, by show Nm + 1 + D.cache.length ≤ N + 1; omega⟩, hdb⟩

set_option maxRecDepth 100000 in
set_option maxHeartbeats 3200000 in
theorem Corrupt_any (x : Nat → Nat) (d0 db : Nat) (D : Dev) (N : Nat) (w : World) (n : Int) (a : Nat) (t : ByteArray) (h : DIs x d0 w db D N) (ok : D.Ok) (hc : D.cache = []) (h0 : 0 ≤ n) (h1 : n < D.nb) (ha : a + t.size ≤ D.size) (hN : N + 1 < 1099511627776) :
    Calls Tryz.prog 18 #[.pointer (some ⟨db, 0, none⟩), .int .i64 n, .int .i64 (a : Int), .string t] w fun e w' => e = .returned (.int .i64 0) ∧ DTurned x d0 w w' db (D.corrupt n (overB (D.kept n) a t)) (N + 1) := by
  have hbn := ok.blocks
  have b2 : D.size ≤ 4096 := by have := ok.sectors; unfold Dev.size; omega
  have hkn : KOK n := WalkArith.wf_i64 (by omega)
  have hks : (D.kept n).size = D.size := by
    unfold Dev.kept
    rcases hsf : D.safe n with _ | u
    · exact zerosB_size _
    · exact ok.safe n u hsf
  have hb0 : Below w.heap.size w ((w.alloc (.cells #[.int .i64 (a : Int)] 3)).alloc (.cells #[.string t] 9)) := ((Below.refl _ w).alloc (Nat.le_refl _) _).alloc (by simp) _
  have f0 : Fr x (paint x w.heap.size (d0 + 2)) (DC d0) w ((w.alloc (.cells #[.int .i64 (a : Int)] 3)).alloc (.cells #[.string t] 9)) := Fr.of_below hb0 ⟨by omega, by omega⟩
  have g1 := World.alloc_heap_new w (.cells #[.int .i64 (a : Int)] 3)
  have g2 := World.alloc_heap_new (w.alloc (.cells #[.int .i64 (a : Int)] 3)) (.cells #[.string t] 9)
  rw [World.size_alloc] at g2
  have G1 := Lib.hid ((Below.heap_alloc (w.alloc (.cells #[.int .i64 (a : Int)] 3)) (.cells #[.string t] 9) w.heap.size (by simp)).trans g1)
  have G2 := Lib.hid g2
  have D1 := Lib.hid (h.below hb0 (x' := paint x w.heap.size (d0 + 2)) (fun b hb => paint_old hb))
  have F1 := Lib.hid f0
  have OK := Lib.hid ok
  have HC := Lib.hid hc
  have HKS := Lib.hid hks
  clear h hb0 f0 g1 g2 hc ok hks
  go_enter Tryz.func18, Tryz.ntmps18
  go_upto_region 1 with fail
  generalize World.alloc (World.alloc w _) _ = W1 at G1 G2 D1 F1 ⊢
  generalize paint x w.heap.size (d0 + 2) = x1 at D1 F1
  generalize w.heap.size = ab at G1 G2 ⊢
  obtain ⟨tb, htb⟩ : ∃ tb, ab + 1 = tb := ⟨_, rfl⟩
  rw [htb] at G2 ⊢
  clear htb
  obtain ⟨dz, hdz⟩ : ∃ dz, D.size = dz := ⟨_, rfl⟩
  obtain ⟨zt, hzt⟩ : ∃ zt, t.size = zt := ⟨_, rfl⟩
  have k0 : W1.cell? ⟨ab, 0, none⟩ = some (.int .i64 (a : Int)) := by rw [cell_of_row _ _ _ _ _ _ G1.out]; rfl
  have k1 : W1.cell? ⟨tb, 0, none⟩ = some (.string t) := by rw [cell_of_row _ _ _ _ _ _ G2.out]; rfl
  have HA : Hid (∀ q, Calls Tryz.prog 58 #[.pointer (some ⟨db, 0, none⟩), .int .i64 n] (W1.drewN q) fun e w' => e = .returned (.bool true) ∧ W1.drewN q = w') := Lib.hid (fun q => has_any x1 d0 db D N (W1.drewN q) n (D1.out.drewN q) h0 h1)
  have SZ : Hid (∀ q, Calls Tryz.prog 55 #[.pointer (some ⟨db, 0, none⟩)] (W1.drewN q) fun e w' => e = .returned (.int .i64 (dz : Int)) ∧ W1.drewN q = w') := Lib.hid (fun q => by
    rw [← hdz]; exact Size_any x1 d0 db D N (W1.drewN q) (D1.out.drewN q) OK.out)
  have e1 : IntKind.i64.wrap ((dz : Int) - (a : Int)) = ((dz - a : Nat) : Int) := by rw [IntWalk.i64_in _ (by omega)]; omega
  have d1 : decide ((a : Int) < 0) = false := decide_eq_false (by omega)
  have d2 : decide ((dz : Int) < (a : Int)) = false := decide_eq_false (by omega)
  have d3 : decide (((dz - a : Nat) : Int) < (zt : Int)) = false := decide_eq_false (by omega)
  have n1 : decide (a < 0) = false := decide_eq_false (by omega)
  have n2 : decide (dz < a) = false := decide_eq_false (by omega)
  have n3 : decide (dz - a < zt) = false := decide_eq_false (by omega)
  have HDZ := Lib.hid hdz
  clear hdz
  go_upto_region 3 with fail
  go_quiet (first
    | (go_at_call 58; exact Calls.quiet_of_same ((HA.out _).mono (fun e w' h => ⟨h.1, h.2.symm⟩)))
    | (go_at_call 55; exact Calls.quiet_of_same ((SZ.out _).mono (fun e w' h => ⟨h.1, h.2.symm⟩)))
    | fail)
  clear HA SZ e1 d1 d2 d3 n1 n2 n3 k0 k1
  have D2 := Lib.hid (D1.out.drewN nq)
  have F2 : Hid (Fr x x1 (DC d0) w (W1.drewN nq)) := Lib.hid ⟨F1.out.os, F1.out.tape, F1.out.output, F1.out.size, F1.out.col, F1.out.new, F1.out.old⟩
  have G3 : Hid ((W1.drewN nq).heap[ab]? = some (.cells #[.int .i64 (a : Int)] 3 (0, 0))) := Lib.hid G1.out
  have G4 : Hid ((W1.drewN nq).heap[tb]? = some (.cells #[.string t] 9 (0, 0))) := Lib.hid G2.out
  clear D1 F1 G1 G2
  generalize W1.drewN nq = W2 at D2 F2 G3 G4 ⊢
  obtain ⟨sm, c6⟩ : ∃ sm, W2.cell? ⟨db, 6, none⟩ = some (.map (some sm)) := by
    obtain ⟨sm, cv, m, Nm, h0, -⟩ := D2.out
    exact ⟨sm, by rw [cell_of_row _ _ _ _ _ _ h0]; rfl⟩
  go_upto_region 6 with fail
  have KE := Lib.hid (kept_any x1 d0 db D N W2.drew n (D2.out.drewN 1) OK.out hkn)
  have c6d : W2.drew.cell? ⟨db, 6, none⟩ = some (.map (some sm)) := c6
  have DBL : Hid (db < W2.heap.size) := Lib.hid D2.out.lt
  go_region_held3 (fun w' => w'.cell? ⟨db, 6, none⟩ = some (.map (some sm)))
    (first
    | (with_reducible assumption)
    | (with_reducible exact c6d))
    (first
    | (go_at_call 60; (with_reducible refine Calls.mono KE.out ?_); rintro e w4 ⟨rfl, hb4⟩; have c6k : w4.cell? ⟨db, 6, none⟩ = some (.map (some sm)) := (hb4.cell (p := ⟨db, 6, none⟩) DBL.out).trans c6d; have B4 := Lib.hid hb4; clear hb4 c6d; have c6d := c6k; clear c6k; have OV := Lib.hid (over_any w4 ab tb a t (D.kept n) (by rw [cell_of_row _ _ _ _ _ _ ((B4.out.block ab (lt_of_block G3.out)).trans G3.out)]; rfl) (by rw [cell_of_row _ _ _ _ _ _ ((B4.out.block tb (lt_of_block G4.out)).trans G4.out)]; rfl) (by rw [HKS.out]; omega) (by rw [HKS.out]; omega)))
    | (go_at_call 59; (with_reducible refine Calls.mono OV.out ?_); rintro e w5 ⟨rfl, hb5⟩; have B5 := B4.out.trans (hb5.mono B4.out.size); have c65 : w5.cell? ⟨db, 6, none⟩ = some (.map (some sm)) := (hb5.cell (p := ⟨db, 6, none⟩) (World.block_lt_of_cell? _ _ c6d)).trans c6d; obtain ⟨w6, hup, f6, d6, e6⟩ := DIs.safe ((D2.out.drewN 1).below B5 (x' := paint x1 W2.heap.size (d0 + 2)) (fun b hb => paint_old hb)) c65 hkn (overB (D.kept n) a t) (by simp only [maxLen]; omega); have F5 : Hid (Fr x1 (paint x1 W2.heap.size (d0 + 2)) (DC d0) W2 w5) := Lib.hid (fr_undrew (Fr.of_below (c := d0 + 2) B5 ⟨by omega, by omega⟩)); have F6 := Lib.hid (F2.out.trans (F5.out.trans f6)); have D6 := Lib.hid d6; have c66 : w6.cell? ⟨db, 6, none⟩ = some (.map (some sm)) := (World.cell?_of_block (w := w5) (w' := w6) e6).trans c65; clear f6 d6 e6 B5 F5 c6d hb5; have c6d := c66; clear c66))
  all_goals
    clear hup c65 c6d B4 OV KE D2 F2 G3 G4
    obtain ⟨sm', cv, m', Nm, q0, qx, qs, qm, qr, qc, qn⟩ := D6.out
    have ecl : (D.corrupt n (overB (D.kept n) a t)).cache.length = 0 := by
      show D.cache.length = 0
      rw [HC.out]; rfl
    rw [ecl] at qr
    obtain ⟨aT, cT, hcvs⟩ := own_shape qr
    subst hcvs
    have c7 : w6.cell? ⟨db, 7, none⟩ = some (.slice aT 0 cT) := by rw [cell_of_row w6 db _ _ _ _ q0]; rfl
    clear q0 qx qs qm qr qc qn ecl
    go_wp2_with fail
    go_loopw [54] (fun i wq => i = .int .i64 0 ∧ wq = w6) (fun _ _ => 0)
    case atStart => exact ⟨rfl, rfl⟩
    case round =>
      obtain ⟨rfl, rfl⟩ := hrel
      go_wp2_with fail
      go_ret
      exact ⟨rfl, _, F6.out, D6.out⟩

end Go.Proofs.YtbgbomlmgkgkoaaGreat.dv

namespace Go.Proofs.YtbgbomlmgkgkoaaGreat.st
open Go.RowKit Go.Proofs.YtbgbomlmgkgkoaaGreat.own Go.Proofs.YtbgbomlmgkgkoaaGreat.dv Go.Proofs.YtbgbomlmgkgkoaaGreat.po Go.Proofs.YtbgbomlmgkgkoaaGreat.arcI Go.Proofs.YtbgbomlmgkgkoaaGreat.vc

theorem now_kept {D : Dev} (hc : D.cache = []) (n : Int) : D.now n = D.kept n := by
  unfold Dev.now; rw [hc]; rfl
theorem now_corrupt {D : Dev} (hc : D.cache = []) (n : Int) (u : ByteArray) (k : Int) : (D.corrupt n u).now k = if k = n then u else D.now k := by
  have h2 : (D.corrupt n u).cache = [] := hc
  rw [now_kept h2, now_kept hc]
  show ((if k = n then some u else D.safe k).getD (zerosB D.size)) = _
  by_cases hk : k = n
  · rw [if_pos hk, if_pos hk]; rfl
  · rw [if_neg hk, if_neg hk]; rfl
theorem corrupt_ok {D : Dev} (ok : D.Ok) (n : Int) (u : ByteArray) (hu : u.size = D.size) : (D.corrupt n u).Ok := by
  refine ⟨ok.blocks, ok.sectors, fun k t h => ?_, ok.cache⟩
  have h : (if k = n then some u else D.safe k) = some t := h
  by_cases hk : k = n
  · rw [if_pos hk] at h; rw [← Option.some.inj h]; exact hu
  · rw [if_neg hk] at h; exact ok.safe k t h
theorem dropL_pg (A : Sp) (s : Nat) (i : Int) : ∀ j : Nat, (dropL A s j).pg i = if (s : Int) ≤ i ∧ i < (s : Int) + (j : Int) then none else A.pg i
  | 0 => by
    rw [if_neg (by omega)]; rfl
  | j + 1 => by
    have ih := dropL_pg A s i j
    show arcI.updP (dropL A s j).pg ((s + j : Nat) : Int) none i = _
    by_cases hi : i = ((s + j : Nat) : Int)
    · subst hi; rw [arcI.updP_same, if_pos (by omega)]
    · rw [arcI.updP_other _ _ hi, ih]
      by_cases h : (s : Int) ≤ i ∧ i < (s : Int) + (j : Int)
      · rw [if_pos h, if_pos (by omega)]
      · rw [if_neg h, if_neg (by omega)]
theorem SQ.drop {x : Nat → Nat} {c0 d0 : Nat} {w : World} {sb db eb N m : Nat} {V : Int → ByteArray} (h : SQ (QV V) x c0 d0 w sb db eb N m V) (hcd : c0 + 9 < d0 ∨ d0 + 2 < c0) (s k : Nat) (hk : 1 ≤ k) (hs : s + k ≤ 24) :
    Calls Tryz.prog 17 #[.pointer (some ⟨sb, 0, none⟩), .agg #[.int .i64 (s : Int), .int .i64 (k : Int)]] w fun e w' => e = .returned (.int .i64 0) ∧ ∃ x' A D, Fr x x' (PC c0 d0) w w' ∧ SIs x' c0 d0 w' sb db eb A D N ∧ VInv A D m 24 ∧ QV V A D ∧ ∀ i : Int, (s : Int) ≤ i → i < (s : Int) + (k : Int) → A.pg i = none := by
  obtain ⟨-, A, D, hS, hI, hV, hq⟩ := h
  refine (PDrop_d x c0 d0 w sb db eb N m 24 s k A D hS hI hcd hk hs (by omega)).mono ?_
  rintro e w' ⟨rfl, x', f, s'⟩
  refine ⟨rfl, x', _, D, f, s', (vinv_dropL hI s k).1, ⟨fun i p hp => ?_, hq.2⟩, fun i h1 h2 => by rw [dropL_pg, if_pos ⟨h1, h2⟩]⟩
  rw [dropL_pg] at hp
  split at hp
  · cases hp
  · exact hq.1 i p hp
/-- a block is another one on the device -/
theorem SQ.corrupt {x x' : Nat → Nat} {c0 d0 : Nat} {w w' : World} {sb db eb N m : Nat} {V : Int → ByteArray} {A : Sp} {D : Dev} (hS : SIs x c0 d0 w sb db eb A D N) (hI : VInv A D m 24) (hq : QV V A D) (hcd : c0 + 9 < d0 ∨ d0 + 2 < c0) {n : Int} {u : ByteArray} (hp : A.pg n = none) (hu : u.size = 512 * m) (f : Fr x x' (DC d0) w w') (hd : DIs x' d0 w' db (D.corrupt n u) (N + 1)) :
    SQ (QV (fun i => if i = n then u else V i)) x' c0 d0 w' sb db eb (N + 1) m (fun i => if i = n then u else V i) := by
  obtain ⟨⟨cb, pm, blk, t⟩, -⟩ := hS
  have hus : u.size = D.size := by rw [hu]; unfold Dev.size; rw [hI.ns]
  have hnow := fun k => now_corrupt hq.2.1 n u k
  have ok := hI.ok
  have hnk : ∀ k p, A.pg k = some p → k ≠ n := fun k p h e => by rw [e, hp] at h; cases h
  have qv : QV (fun i => if i = n then u else V i) A (D.corrupt n u) := ⟨hq.1, hq.2.1, fun k => by
    rw [hnow k]
    show _ = if k = n then u else V k
    by_cases hk : k = n
    · rw [if_pos hk, if_pos hk]
    · rw [if_neg hk, if_neg hk]; exact hq.2.2 k⟩
  refine ⟨QV_rd _, A, D.corrupt n u, ⟨⟨cb, pm, blk, (t.frame f (fun e he hc => ?_)).mono (by omega)⟩, hd⟩, ⟨⟨ok.arc, ok.held, ok.pins, ok.cnt, ok.text, ok.key, fun k p h hdp => ?_, corrupt_ok ok.dev n u hus, ok.up, ok.dead⟩, hI.nb, hI.ns, hI.pins, hI.pinned, hI.most⟩, fun k => ?_, qv⟩
  · have h1 := he.1
    have h2 := hc.1
    have h3 := hc.2
    omega
  · rw [hnow k, if_neg (hnk k p h)]; exact ok.clean k p h hdp
  · unfold cont
    rcases h : A.pg k with _ | p
    · exact qv.2.2 k
    · show p.text = if k = n then u else V k
      rw [if_neg (hnk k p h), ok.clean k p h (hq.1 k p h)]
      exact hq.2.2 k

/-! ### the stream with one byte turned -/
theorem overB_list (s : ByteArray) (a : Nat) (b : UInt8) (h : a < s.size) : (overB s a ⟨#[b]⟩).data.toList = s.data.toList.set a b := by
  have hl : s.data.toList.length = s.size := Array.length_toList
  unfold overB
  rw [ByteArray.data_append, Array.toList_append, ByteArray.data_append, Array.toList_append, extract_list, extract_list, List.drop_zero, Nat.sub_zero]
  have h1 : (⟨#[b]⟩ : ByteArray).data.toList = [b] := rfl
  have h2 : (⟨#[b]⟩ : ByteArray).size = 1 := rfl
  rw [h1, h2, List.set_eq_take_append_cons_drop, if_pos (by omega), List.append_assoc, List.singleton_append]
  rw [List.take_of_length_le (l := List.drop (a + 1) s.data.toList) (by rw [List.length_drop]; omega)]
theorem overB_size (s : ByteArray) (a : Nat) (b : UInt8) (h : a < s.size) : (overB s a ⟨#[b]⟩).size = s.size := by
  have q : (overB s a ⟨#[b]⟩).data.toList.length = (overB s a ⟨#[b]⟩).size := Array.length_toList
  rw [← q, overB_list s a b h, List.length_set]; exact Array.length_toList

theorem xor_u8 (x y : UInt8) : bits BinOp.xor IntKind.u8 (x.toNat : Int) (y.toNat : Int) = ((x ^^^ y).toNat : Int) := by
  have hx : x.toNat % 256 = x.toNat := Nat.mod_eq_of_lt x.toNat_lt
  have hy : y.toNat % 256 = y.toNat := Nat.mod_eq_of_lt y.toNat_lt
  have hz : x.toNat ^^^ y.toNat < 256 := Nat.xor_lt_two_pow (n := 8) x.toNat_lt y.toNat_lt
  have hk : (2 : Nat) ^ IntKind.u8.bits = 256 := by decide
  simp only [bits, BitVec.ofInt_natCast, BitVec.toNat_xor, BitVec.toNat_ofNat, hk, hx, hy, UInt8.toNat_xor]
  rw [IntKind.wrap_u8]
  omega
theorem xor_ne {x y : UInt8} (h : y ≠ 0) : x ^^^ y ≠ x := fun e => by
  have q := congrArg (fun z => x ^^^ z) e
  simp only [← UInt8.xor_assoc, UInt8.xor_self, UInt8.zero_xor] at q
  exact h q
/-- what stands behind the turn of one byte -/
structure Turned (V' : Int → ByteArray) (n sz : Nat) (T : List UInt8) (at_ : Nat) (b : UInt8) (L S : Nat) : Prop where
  foot : (V' (((2 : Nat) : Int) + (n : Int) - 1)).data.toList.drop (sz - 12) = bytesN L 8 ++ bytesN S 4
  read : ∀ off k, off + k ≤ T.length → readL V' 2 sz off k = ((T.set at_ b).drop off).take k
  sum : onS 0 (T.set at_ b) ≠ onS 0 T
  one : ((T.set at_ b).drop at_).take 1 = [b]
theorem turned_of {V : Int → ByteArray} {n sz : Nat} {T : List UInt8} {L S at_ : Nat} {b c : UInt8} (hcl : Closed V 2 n sz T) (hft : (V (((2 : Nat) : Int) + (n : Int) - 1)).data.toList.drop (sz - 12) = bytesN L 8 ++ bytesN S 4) (hsz : ∀ k, (V k).size = sz) (hz : 512 ≤ sz) (hn : 1 ≤ n) (hL : T.length ≤ n * sz - 12) (ha : at_ < T.length) (hc : T[at_]? = some c) (hb : b ≠ c) :
    Turned (fun i => if i = ((2 : Nat) : Int) + ((at_ / sz : Nat) : Int) then overB (V (((2 : Nat) : Int) + ((at_ / sz : Nat) : Int))) (at_ % sz) ⟨#[b]⟩ else V i) n sz T at_ b L S := by
  have hm : at_ % sz < sz := Nat.mod_lt _ (by omega)
  have hsp := Nat.div_add_mod at_ sz
  have hlo : ∀ k, (V k).data.toList.length = sz := fun k => by rw [Array.length_toList]; exact hsz k
  have hl : T = T.take at_ ++ c :: T.drop (at_ + 1) := by
    obtain ⟨h1, rfl⟩ := List.getElem?_eq_some_iff.1 hc
    rw [List.getElem_cons_drop, List.take_append_drop]
  refine ⟨?_, fun off k h => ?_, ?_, ?_⟩
  · by_cases hk : ((2 : Nat) : Int) + (n : Int) - 1 = ((2 : Nat) : Int) + ((at_ / sz : Nat) : Int)
    · rw [if_pos hk, overB_list _ _ _ (by rw [hsz]; exact hm), ← hk, ← hft]
      have hq : at_ / sz = n - 1 := by omega
      have h2 : (n - 1) * sz + sz = n * sz := by
        obtain ⟨j, rfl⟩ : ∃ j, n = j + 1 := ⟨n - 1, by omega⟩
        rw [Nat.add_mul, Nat.one_mul]; simp
      rw [hq, Nat.mul_comm] at hsp
      rw [List.drop_set_of_lt (by omega)]
    · rw [if_neg hk]; exact hft
  · refine readL_of (fun i hi => ?_) (by rw [List.length_set]; exact h)
    rw [List.length_set] at hi
    by_cases hk : ((2 : Nat) : Int) + ((i / sz : Nat) : Int) = ((2 : Nat) : Int) + ((at_ / sz : Nat) : Int)
    · have hq : i / sz = at_ / sz := by omega
      rw [if_pos hk, overB_list _ _ _ (by rw [hsz]; exact hm), ← hq]
      have hsi := Nat.div_add_mod i sz
      by_cases hia : i = at_
      · subst hia
        rw [List.getElem?_set_self (by rw [hlo]; exact hm), List.getElem?_set_self ha]
      · have hne : at_ % sz ≠ i % sz := fun e => hia (by rw [← hsi, ← hsp, hq, e])
        rw [List.getElem?_set_ne hne, List.getElem?_set_ne (fun e => hia e.symm)]
        exact hcl.bytes i hi
    · rw [if_neg hk]
      have hia : at_ ≠ i := fun e => hk (by rw [e])
      rw [List.getElem?_set_ne hia]
      exact hcl.bytes i hi
  · rw [List.set_eq_take_append_cons_drop, if_pos ha]
    intro e
    rw [hl] at e
    have e2 := hl
    refine onS_turn (T.take at_) (T.drop (at_ + 1)) b c hb ?_
    rw [← hl]
    rw [← hl] at e
    exact e
  · rw [List.set_eq_take_append_cons_drop, if_pos ha, List.drop_left' (by rw [List.length_take]; omega)]
    rfl

end Go.Proofs.YtbgbomlmgkgkoaaGreat.st

namespace Go.Proofs.YtbgbomlmgkgkoaaGreat.st
open Go.RowKit Go.Proofs.YtbgbomlmgkgkoaaGreat.own Go.Proofs.YtbgbomlmgkgkoaaGreat.dv Go.Proofs.YtbgbomlmgkgkoaaGreat.po Go.Proofs.YtbgbomlmgkgkoaaGreat.arcI

set_option maxRecDepth 100000 in
set_option maxHeartbeats 12800000 in
theorem told_walk (s0 f0 : Int) (aT : Option Addr) (len cap : Nat) (P : Nat → ByteArray) (M : Nat → Int) (at0 : Int) (y : UInt8) (w : World) (hpc : VPc w aT len P M) :
    Calls Tryz.prog 4 #[.int .i64 s0, .int .i64 f0, .slice aT len cap, .int .i64 at0, .int .u8 (y.toNat : Int)] w fun e w' => e = .returned (.bool true) ∧ Below w.heap.size w w' := by
  have HPC := Lib.hid hpc
  clear hpc
  go_enter Tryz.func4, Tryz.ntmps4
  go_wp2_with fail
  refine (made2_any (fun _ => 100) 0 20 30 (.inl (by omega)) (.inl (by omega)) (.inl (by omega)) (by rintro (q | q); exact absurd q.1.2 (by omega); exact absurd q.2 (by omega)) (fun q => by have := q.2; omega) w s0 f0).mono ?_
  rintro e w1 ⟨sb, db, eb, mb, rb, m, fr0, x1, rfl, m1, m2, r1, r2, f1, s1, e1⟩
  obtain ⟨V0, hV⟩ := SV.made s1 (by omega) r1 (by omega)
  have S1 := Lib.hid hV
  have E1 := Lib.hid e1
  have F1 := Lib.hid (f1.mono (D := AQ2) (fun e he => by rcases he with he | he | he; (have := PC_AQ e he; show e ≤ 99; omega); (have := he.2; show e ≤ 99; omega); (show e ≤ 99; omega)))
  clear s1 hV f1 e1
  go_wp2_with fail
  have hb2 : Below w1.heap.size w1 (w1.alloc (.cells #[.pointer (some ⟨db, 0, none⟩), .pointer (some ⟨sb, 0, none⟩), .pointer (some ⟨mb, 0, none⟩), .pointer (some ⟨rb, 0, none⟩)] 29)) := (Below.refl _ w1).alloc (Nat.le_refl _) _
  have f2 : Fr x1 (paint x1 w1.heap.size 98) (fun e => e = 98) w1 (w1.alloc (.cells #[.pointer (some ⟨db, 0, none⟩), .pointer (some ⟨sb, 0, none⟩), .pointer (some ⟨mb, 0, none⟩), .pointer (some ⟨rb, 0, none⟩)] 29)) := Fr.of_below hb2 rfl
  have g2 := World.alloc_heap_new w1 (.cells #[.pointer (some ⟨db, 0, none⟩), .pointer (some ⟨sb, 0, none⟩), .pointer (some ⟨mb, 0, none⟩), .pointer (some ⟨rb, 0, none⟩)] 29)
  have X2 : Hid (paint x1 w1.heap.size 98 w1.heap.size = 98) := Lib.hid (paint_new (Nat.le_refl _))
  have S2 := Lib.hid (S1.out.frame f2 (fun e he hc => by subst hc; exact nPC (by omega) (PD_PC 0 20 _ he)))
  have E2 := Lib.hid (E1.out.frame f2 (fun e he hc => by have := he.2; omega))
  have F2 := Lib.hid (F1.out.trans (f2.mono (fun e he => by show e ≤ 99; omega)))
  have G2 := Lib.hid g2
  clear hb2 f2 g2 S1 F1 E1
  generalize World.alloc w1 _ = W2 at X2 S2 E2 F2 G2 ⊢
  generalize paint x1 w1.heap.size 98 = x2 at X2 S2 E2 F2
  generalize w1.heap.size = gb at X2 G2 ⊢
  refine (awake_any W2).mono ?_
  rintro e w3 ⟨rfl, b3⟩
  have f3 : Fr x2 (paint x2 W2.heap.size 70) (fun e => e = 70) W2 w3 := Fr.of_below b3 rfl
  have S3 := Lib.hid (S2.out.frame f3 (fun e he hc => by subst hc; exact nPC (by omega) (PD_PC 0 20 _ he)))
  have E3 := Lib.hid (E2.out.frame f3 (fun e he hc => by have := he.2; omega))
  have F3 := Lib.hid (F2.out.trans (f3.mono (D := AQ2) (fun e he => by show e ≤ 99; omega)))
  have X3 := Lib.hid ((f3.col _ (lt_of_block G2.out)).trans X2.out)
  have g3 := (b3.block _ (lt_of_block G2.out)).trans G2.out
  have k0 : w3.cell? ⟨gb, 0, none⟩ = some (.pointer (some ⟨db, 0, none⟩)) := by rw [cell_of_row _ _ _ _ _ _ g3]; rfl
  have k1 : w3.cell? ⟨gb, 1, none⟩ = some (.pointer (some ⟨sb, 0, none⟩)) := by rw [cell_of_row _ _ _ _ _ _ g3]; rfl
  have k2 : w3.cell? ⟨gb, 2, none⟩ = some (.pointer (some ⟨mb, 0, none⟩)) := by rw [cell_of_row _ _ _ _ _ _ g3]; rfl
  have k3 : w3.cell? ⟨gb, 3, none⟩ = some (.pointer (some ⟨rb, 0, none⟩)) := by rw [cell_of_row _ _ _ _ _ _ g3]; rfl
  have G3 := Lib.hid g3
  clear f3 b3 g3 S2 E2 F2 X2 G2
  generalize paint x2 W2.heap.size 70 = x3 at S3 E3 F3 X3
  go_wp2_with fail
  clear k0 k1 k2 k3
  refine (written_any w aT len cap P M x3 w3 db sb mb rb eb 0 m V0 HPC.out (F3.out.below_all (fun b _ hC => by have : (100 : Nat) ≤ 99 := hC; omega)) (fun b hb => F3.out.col b hb) S3.out E3.out (by omega) (by omega)).mono ?_
  rintro e w4 ⟨n, all, x4, V, rfl, f4, s4, cl4, o1, o2, o3, o4⟩
  have S4 := Lib.hid s4
  have F4 := Lib.hid (F3.out.trans (f4.mono (D := AQ2) (fun e he => by have : e ≤ 95 := he; show e ≤ 99; omega)))
  have G4 := Lib.hid ((f4.old _ (lt_of_block G3.out) (by rw [X3.out]; intro (q : 98 ≤ 95); omega)).trans G3.out)
  have X4 := Lib.hid ((f4.col _ (lt_of_block G3.out)).trans X3.out)
  have CL := Lib.hid cl4
  have O3 := Lib.hid o3
  obtain ⟨T, hT⟩ : ∃ T : ByteArray, T = ⟨all.toArray⟩ := ⟨_, rfl⟩
  have HT : Hid (T.data.toList = all) := Lib.hid (by rw [hT])
  have hTs : all.length = T.size := by
    have q : T.data.toList.length = T.size := Array.length_toList
    rw [← q, HT.out]
  have HTS := Lib.hid hTs
  rw [hTs] at o4
  have HTT := Lib.hid hT
  rw [← hT]
  clear s4 f4 cl4 o3 S3 E3 F3 X3 G3 hT hTs
  have hb5 : Below w4.heap.size w4 (w4.alloc (.cells #[.int .i64 2, .int .i64 (n : Int)] 34)) := (Below.refl _ w4).alloc (Nat.le_refl _) _
  have f5 : Fr x4 (paint x4 w4.heap.size 98) (fun e => e = 98) w4 (w4.alloc (.cells #[.int .i64 2, .int .i64 (n : Int)] 34)) := Fr.of_below hb5 rfl
  have g6 := World.alloc_heap_new w4 (.cells #[.int .i64 2, .int .i64 (n : Int)] 34)
  have S5 := Lib.hid (S4.out.frame f5 (fun e he hc => by subst hc; exact nPC (by omega) (PD_PC 0 20 _ he)))
  have F5 := Lib.hid (F4.out.trans (f5.mono (D := AQ2) (fun e he => by show e ≤ 99; omega)))
  have g5 := (hb5.block _ (lt_of_block G4.out)).trans G4.out
  have k1 : (w4.alloc (.cells #[.int .i64 2, .int .i64 (n : Int)] 34)).cell? ⟨gb, 1, none⟩ = some (.pointer (some ⟨sb, 0, none⟩)) := by rw [cell_of_row _ _ _ _ _ _ g5]; rfl
  have X5 : Hid (paint x4 w4.heap.size 98 gb = 98 ∧ paint x4 w4.heap.size 98 w4.heap.size = 98) := Lib.hid ⟨(paint_old (lt_of_block G4.out)).trans X4.out, paint_new (Nat.le_refl _)⟩
  have G5 := Lib.hid g5
  have G6 := Lib.hid g6
  clear hb5 f5 g5 g6 S4 F4 X4 G4
  go_upto_region 5 with fail
  generalize World.alloc w4 _ = W5 at S5 F5 k1 G5 G6 ⊢
  generalize paint x4 w4.heap.size 98 = x5 at S5 F5 X5
  generalize w4.heap.size = ob at G6 X5 ⊢
  go_wp2_with fail
  clear k1
  refine (S5.out.flush (.inl (by omega)) (by omega)).mono ?_
  rintro e w6 ⟨rfl, x6, f6, s6⟩
  have n98 : ∀ c, CC2 c → ¬ PC c 20 98 := fun c hc q => by have := hc.aq _ q; omega
  have S6 := Lib.hid s6
  have F6 := Lib.hid (F5.out.trans (f6.mono (D := AQ2) (fun e he => by have := PC_AQ e he; show e ≤ 99; omega)))
  have G7 := Lib.hid ((f6.old _ (lt_of_block G5.out) (by rw [X5.out.1]; exact n98 0 (.inl rfl))).trans G5.out)
  have G8 := Lib.hid ((f6.old _ (lt_of_block G6.out) (by rw [X5.out.2]; exact n98 0 (.inl rfl))).trans G6.out)
  have X6 : Hid (x6 gb = 98 ∧ x6 ob = 98) := Lib.hid ⟨(f6.col _ (lt_of_block G5.out)).trans X5.out.1, (f6.col _ (lt_of_block G6.out)).trans X5.out.2⟩
  clear s6 f6 S5 F5 X5 G5 G6 n98
  by_cases hz0 : T.size = 0 ∨ y = 0
  · have fin : Hid (Below w.heap.size w w6) := Lib.hid (F6.out.below_all (fun b _ hC => by have : (100 : Nat) ≤ 99 := hC; omega))
    clear S6 F6 G7 G8 X6
    by_cases h1 : T.size = 0
    · go_wp2_with fail
      go_ret
      exact ⟨rfl, fin.out⟩
    · have h2 : y = 0 := hz0.resolve_left h1
      have h3 : ((y.toNat : Nat) : Int) = 0 := by rw [h2]; rfl
      have h4 : ¬ ((T.size : Int) = 0) := by omega
      clear hz0 h2
      go_wp2_with fail
      go_ret
      exact ⟨rfl, fin.out⟩
  have hT1 : 0 < T.size := by omega
  have hy1 : y ≠ 0 := fun e => hz0 (.inr e)
  have hy2 : ¬ y.toNat = 0 := fun e => hy1 (UInt8.toNat_inj.1 (by rw [e]; rfl))
  have hy3 : ¬ ((y.toNat : Int) = 0) := by omega
  have h4 : ¬ ((T.size : Int) = 0) := by omega
  have h5 : ¬ (T.size = 0) := by omega
  obtain ⟨z, hz, hz2⟩ := modP_is at0 T.size (by omega) (by omega)
  have HY1 := Lib.hid hy1
  have hy4 : decide (y = 0) = false := decide_eq_false hy1
  have b1 : ((T.size : Int) == 0) = false := beq_eq_false_iff_ne.2 h4
  have b2 : ((y.toNat : Int) == 0) = false := beq_eq_false_iff_ne.2 hy3
  clear hz0
  have k1 : w6.cell? ⟨gb, 1, none⟩ = some (.pointer (some ⟨sb, 0, none⟩)) := by rw [cell_of_row _ _ _ _ _ _ G7.out]; rfl
  have SZ := Lib.hid S6.out.Size
  go_wp2_with fail
  clear hz k1
  refine SZ.out.mono ?_
  rintro e w7 ⟨rfl, rfl⟩
  obtain ⟨sz, hsz⟩ : ∃ sz, 512 * m = sz := ⟨_, rfl⟩
  have hs1 : 512 ≤ sz ∧ sz ≤ 1536 := by omega
  rw [hsz]
  have HSZ := Lib.hid hsz
  clear SZ hsz
  go_upto_region 11 with fail
  obtain ⟨c, hc⟩ : ∃ c, T[z]'hz2 = c := ⟨_, rfl⟩
  obtain ⟨b, hb⟩ : ∃ b, c ^^^ y = b := ⟨_, rfl⟩
  have hx : bits BinOp.xor IntKind.u8 (c.toNat : Int) (y.toNat : Int) = (b.toNat : Int) := by rw [xor_u8, hb]
  have HAC : Hid (all[z]? = some c) := Lib.hid (by
    rw [← HT.out, Array.getElem?_toList]
    rw [← hc]
    exact Array.getElem?_eq_getElem hz2)
  have HBC : Hid (b ≠ c) := Lib.hid (by rw [← hb]; exact xor_ne HY1.out)
  have HVS : Hid (∀ k, (V k).size = sz) := Lib.hid (fun k => by rw [← HSZ.out]; exact S6.out.text k)
  obtain ⟨sn, hsn⟩ : ∃ sn, (onS 0 all).toNat = sn := ⟨_, rfl⟩
  have hsl : sn < 4294967296 := by have := (onS_U32 all).2; have := (onS_U32 all).1; omega
  have HSUM : Hid (onS 0 all = (sn : Int)) := Lib.hid (by have := (onS_U32 all).1; omega)
  have FT : Hid ((V (((2 : Nat) : Int) + (n : Int) - 1)).data.toList.drop (sz - 12) = bytesN T.size 8 ++ bytesN sn 4) := Lib.hid (by
    have q := CL.out.foot
    rw [hsn, HTS.out, HSZ.out] at q
    exact q)
  clear hsn hb hy1 hy2 hy3 hy4 b1 b2
  obtain ⟨zq, hzq⟩ : ∃ zq, z / sz = zq := ⟨_, rfl⟩
  obtain ⟨zr, hzr⟩ : ∃ zr, z % sz = zr := ⟨_, rfl⟩
  have hzr2 : zr < sz := by rw [← hzr]; exact Nat.mod_lt _ (by omega)
  have hO3 : T.size ≤ n * sz - 12 := by have q := O3.out; rw [HTS.out, HSZ.out] at q; exact q
  have hzn : zq < n := by rw [← hzq]; exact Nat.div_lt_of_lt_mul (by rw [Nat.mul_comm]; omega)
  have e1 : Int.tdiv (z : Int) (sz : Int) = (zq : Int) := by rw [← Int.ofNat_tdiv, hzq]
  have e2 : Int.tmod (z : Int) (sz : Int) = (zr : Int) := by rw [← Int.ofNat_tmod, hzr]
  have e3 : IntKind.i64.wrap (zq : Int) = (zq : Int) := IntWalk.i64_in _ (by omega)
  have e4 : IntKind.i64.wrap (2 + (zq : Int)) = 2 + (zq : Int) := IntWalk.i64_in _ (by omega)
  have s0' : ¬ ((sz : Int) = 0) := by omega
  have s1' : ¬ (sz = 0) := by omega
  have z1' : (0 : Int) ≤ (z : Int) := by omega
  have z2' : (z : Int) < (T.size : Int) := by omega
  have HZQ := Lib.hid hzq
  have HZR := Lib.hid hzr
  have HS0 : Hid (∀ W : World, (∃ x', Fr x6 x' (fun e => e ≤ 95) w6 W) → W.cell? ⟨gb, 0, none⟩ = some (.pointer (some ⟨db, 0, none⟩)) ∧ W.cell? ⟨gb, 1, none⟩ = some (.pointer (some ⟨sb, 0, none⟩)) ∧ W.cell? ⟨ob, 0, none⟩ = some (.int .i64 2) ∧ W.cell? ⟨ob, 1, none⟩ = some (.int .i64 (n : Int))) := Lib.hid (fun W h => by
    obtain ⟨x', f⟩ := h
    have a := (f.old _ (lt_of_block G7.out) (by rw [X6.out.1]; omega)).trans G7.out
    have b := (f.old _ (lt_of_block G8.out) (by rw [X6.out.2]; omega)).trans G8.out
    exact ⟨by rw [cell_of_row _ _ _ _ _ _ a]; rfl, by rw [cell_of_row _ _ _ _ _ _ a]; rfl, by rw [cell_of_row _ _ _ _ _ _ b]; rfl, by rw [cell_of_row _ _ _ _ _ _ b]; rfl⟩)
  have SD := Lib.hid (S6.out.blocks24 w6.drew (Below.refl _ _).drew)
  have DR := Lib.hid (SD.out.drop (.inl (by omega)) 2 n o1 (by omega))
  have hH0 := HS0.out w6.drew ⟨x6, ⟨rfl, rfl, rfl, Nat.le_refl _, fun _ _ => rfl, fun b h1 h2 => absurd h2 (Nat.not_lt.2 h1), fun _ _ _ => rfl⟩⟩
  have HO3 := Lib.hid hO3
  clear hzq hzr S6 SD hO3
  refine wp_region_held_drew (S := fun w' => w'.cell? ⟨gb, 0, none⟩ = some (.pointer (some ⟨db, 0, none⟩)) ∧ w'.cell? ⟨gb, 1, none⟩ = some (.pointer (some ⟨sb, 0, none⟩)) ∧ w'.cell? ⟨ob, 0, none⟩ = some (.int .i64 2) ∧ w'.cell? ⟨ob, 1, none⟩ = some (.int .i64 (n : Int))) (by kernel_rfl) ?_ (fun hHeld => ?_)
  · exact hH0
  refine wpAnyH_take (i := 0) (v := ?_) rfl (by kernel_rfl) (by kernel_rfl) (by kernel_rfl) (fun _ _ _ h => h) (Or.inl ⟨by rfl, ?_⟩) (by assumption) ?_
  rotate_left
  · intro w hSw; (try dsimp only at hSw); go_simp; (try with_reducible rfl)
  try simp only [Act.put, List.setIfInBounds_toArray, List.set_cons_zero, List.set_cons_succ, List.getElem_toArray, List.getElem_cons_zero]
  refine wpAnyH_take (i := 1) (v := ?_) rfl (by kernel_rfl) (by kernel_rfl) (by kernel_rfl) (fun _ _ _ h => h) (Or.inl ⟨by rfl, ?_⟩) (by assumption) ?_
  rotate_left
  · intro w hSw; (try dsimp only at hSw); go_simp; (try with_reducible rfl)
  try simp only [Act.put, List.setIfInBounds_toArray, List.set_cons_zero, List.set_cons_succ, List.getElem_toArray, List.getElem_cons_zero, List.getElem_cons_succ]
  refine wpAnyH_take (i := 2) (v := ?_) rfl (by kernel_rfl) (by kernel_rfl) (by kernel_rfl) (fun _ _ _ h => h) (Or.inl ⟨by rfl, ?_⟩) (by assumption) ?_
  rotate_left
  · intro w hSw; (try dsimp only at hSw); go_simp; (try with_reducible rfl)
  try simp only [Act.put, List.setIfInBounds_toArray, List.set_cons_zero, List.set_cons_succ, List.getElem_toArray, List.getElem_cons_zero, List.getElem_cons_succ]
  refine wpAnyH_ready (rs := [3]) (by kernel_rfl) (by simp) ?_
  refine AllReadyH.cons rfl (fun K hK => ?_) AllReadyH.nil
  go_simp
  with_reducible refine Calls.mono DR.out ?_
  rintro e w8 ⟨rfl, x8, A, D, f8, s8, i8, q8, p8⟩
  have F8 := Lib.hid f8
  have S8 := Lib.hid s8
  have I8 := Lib.hid i8
  have Q8 := Lib.hid q8
  have P8 := Lib.hid p8
  have hH8 := HS0.out w8 ⟨x8, fr_undrew (f8.mono (fun e he => PC_AQ e he))⟩
  clear f8 s8 i8 q8 p8 DR
  go_wp2_with fail
  refine hK.out _ _ ?_ (fun hHeld2 => ?_)
  · exact hH8
  clear hK K hHeld
  try simp only [Act.put, List.setIfInBounds_toArray, List.set_cons_zero, List.set_cons_succ, List.getElem_toArray, List.getElem_cons_zero, List.getElem_cons_succ]
  refine wpAnyH_take (i := 4) (v := ?_) rfl (by kernel_rfl) (by kernel_rfl) (by kernel_rfl) (fun _ _ _ h => h) (Or.inl ⟨by rfl, ?_⟩) (by assumption) ?_
  rotate_left
  · intro w hSw; (try dsimp only at hSw); go_simp; (try with_reducible rfl)
  try simp only [Act.put, List.setIfInBounds_toArray, List.set_cons_zero, List.set_cons_succ, List.getElem_toArray, List.getElem_cons_zero, List.getElem_cons_succ]
  refine wpAnyH_take (i := 5) (v := ?_) rfl (by kernel_rfl) (by kernel_rfl) (by kernel_rfl) (fun _ _ _ h => h) (Or.inl ⟨by rfl, ?_⟩) (by assumption) ?_
  rotate_left
  · intro w hSw; (try dsimp only at hSw); go_simp; (try with_reducible rfl)
  try simp only [Act.put, List.setIfInBounds_toArray, List.set_cons_zero, List.set_cons_succ, List.getElem_toArray, List.getElem_cons_zero, List.getElem_cons_succ]
  refine wpAnyH_take (i := 6) (v := ?_) rfl (by kernel_rfl) (by kernel_rfl) (by kernel_rfl) (fun _ _ _ h => h) (Or.inl ⟨by rfl, ?_⟩) (by assumption) ?_
  rotate_left
  · intro w hSw; (try dsimp only at hSw); go_simp; (try with_reducible rfl)
  try simp only [Act.put, List.setIfInBounds_toArray, List.set_cons_zero, List.set_cons_succ, List.getElem_toArray, List.getElem_cons_zero, List.getElem_cons_succ]
  refine wpAnyH_take (i := 7) (v := ?_) rfl (by kernel_rfl) (by kernel_rfl) (by kernel_rfl) (fun _ _ _ h => h) (Or.inl ⟨by rfl, ?_⟩) (by assumption) ?_
  rotate_left
  · intro w hSw; (try dsimp only at hSw); go_simp; (try with_reducible rfl)
  try simp only [Act.put, List.setIfInBounds_toArray, List.set_cons_zero, List.set_cons_succ, List.getElem_toArray, List.getElem_cons_zero, List.getElem_cons_succ]
  refine wpAnyH_take (i := 8) (v := ?_) rfl (by kernel_rfl) (by kernel_rfl) (by kernel_rfl) (fun _ _ _ h => h) (Or.inl ⟨by rfl, ?_⟩) (by assumption) ?_
  rotate_left
  · intro w hSw; (try dsimp only at hSw); go_simp; (try with_reducible rfl)
  try simp only [Act.put, List.setIfInBounds_toArray, List.set_cons_zero, List.set_cons_succ, List.getElem_toArray, List.getElem_cons_zero, List.getElem_cons_succ]
  refine wpAnyH_take (i := 9) (v := ?_) rfl (by kernel_rfl) (by kernel_rfl) (by kernel_rfl) (fun _ _ _ h => h) (Or.inl ⟨by rfl, ?_⟩) (by assumption) ?_
  rotate_left
  · intro w hSw; (try dsimp only at hSw); go_simp; (try with_reducible rfl)
  try simp only [Act.put, List.setIfInBounds_toArray, List.set_cons_zero, List.set_cons_succ, List.getElem_toArray, List.getElem_cons_zero, List.getElem_cons_succ]
  refine wpAnyH_take (i := 10) (v := ?_) rfl (by kernel_rfl) (by kernel_rfl) (by kernel_rfl) (fun _ _ _ h => h) (Or.inl ⟨by rfl, ?_⟩) (by assumption) ?_
  rotate_left
  · intro w hSw; (try dsimp only at hSw); go_simp; (try with_reducible rfl)
  try simp only [Act.put, List.setIfInBounds_toArray, List.set_cons_zero, List.set_cons_succ, List.getElem_toArray, List.getElem_cons_zero, List.getElem_cons_succ]
  refine wpAnyH_take (i := 11) (v := ?_) rfl (by kernel_rfl) (by kernel_rfl) (by kernel_rfl) (fun _ _ _ h => h) (Or.inl ⟨by rfl, ?_⟩) (by assumption) ?_
  rotate_left
  · intro w hSw; (try dsimp only at hSw); go_simp; (try with_reducible rfl)
  try simp only [Act.put, List.setIfInBounds_toArray, List.set_cons_zero, List.set_cons_succ, List.getElem_toArray, List.getElem_cons_zero, List.getElem_cons_succ]
  refine wpAnyH_take (i := 12) (v := ?_) rfl (by kernel_rfl) (by kernel_rfl) (by kernel_rfl) (fun _ _ _ h => h) (Or.inl ⟨by rfl, ?_⟩) (by assumption) ?_
  rotate_left
  · intro w hSw; (try dsimp only at hSw); go_simp; (try with_reducible rfl)
  try simp only [Act.put, List.setIfInBounds_toArray, List.set_cons_zero, List.set_cons_succ, List.getElem_toArray, List.getElem_cons_zero, List.getElem_cons_succ]
  refine wpAnyH_take (i := 13) (v := ?_) rfl (by kernel_rfl) (by kernel_rfl) (by kernel_rfl) (fun _ _ _ h => h) (Or.inl ⟨by rfl, ?_⟩) (by assumption) ?_
  rotate_left
  · intro w hSw; (try dsimp only at hSw); go_simp; (try with_reducible rfl)
  try simp only [Act.put, List.setIfInBounds_toArray, List.set_cons_zero, List.set_cons_succ, List.getElem_toArray, List.getElem_cons_zero, List.getElem_cons_succ]
  refine wpAnyH_take (i := 14) (v := ?_) rfl (by kernel_rfl) (by kernel_rfl) (by kernel_rfl) (fun _ _ _ h => h) (Or.inl ⟨by rfl, ?_⟩) (by assumption) ?_
  rotate_left
  · intro w hSw; (try dsimp only at hSw); go_simp; (try with_reducible rfl)
  try simp only [Act.put, List.setIfInBounds_toArray, List.set_cons_zero, List.set_cons_succ, List.getElem_toArray, List.getElem_cons_zero, List.getElem_cons_succ]
  refine wpAnyH_take (i := 15) (v := ?_) rfl (by kernel_rfl) (by kernel_rfl) (by kernel_rfl) (fun _ _ _ h => h) (Or.inl ⟨by rfl, ?_⟩) (by assumption) ?_
  rotate_left
  · intro w hSw; (try dsimp only at hSw); go_simp; (try with_reducible rfl)
  try simp only [Act.put, List.setIfInBounds_toArray, List.set_cons_zero, List.set_cons_succ, List.getElem_toArray, List.getElem_cons_zero, List.getElem_cons_succ]
  refine wpAnyH_take (i := 16) (v := ?_) rfl (by kernel_rfl) (by kernel_rfl) (by kernel_rfl) (fun _ _ _ h => h) (Or.inl ⟨by rfl, ?_⟩) (by assumption) ?_
  rotate_left
  · intro w hSw; (try dsimp only at hSw); go_simp; (try with_reducible rfl)
  try simp only [Act.put, List.setIfInBounds_toArray, List.set_cons_zero, List.set_cons_succ, List.getElem_toArray, List.getElem_cons_zero, List.getElem_cons_succ]
  refine wpAnyH_take (i := 17) (v := ?_) rfl (by kernel_rfl) (by kernel_rfl) (by kernel_rfl) (fun _ _ _ h => h) (Or.inl ⟨by rfl, ?_⟩) (by assumption) ?_
  rotate_left
  · intro w hSw; (try dsimp only at hSw); go_simp; (try with_reducible rfl)
  try simp only [Act.put, List.setIfInBounds_toArray, List.set_cons_zero, List.set_cons_succ, List.getElem_toArray, List.getElem_cons_zero, List.getElem_cons_succ]
  refine wpAnyH_take (i := 18) (v := ?_) rfl (by kernel_rfl) (by kernel_rfl) (by kernel_rfl) (fun _ _ _ h => h) (Or.inl ⟨by rfl, ?_⟩) (by assumption) ?_
  rotate_left
  · intro w hSw; (try dsimp only at hSw); go_simp; (try with_reducible rfl)
  try simp only [Act.put, List.setIfInBounds_toArray, List.set_cons_zero, List.set_cons_succ, List.getElem_toArray, List.getElem_cons_zero, List.getElem_cons_succ]
  refine wpAnyH_take (i := 19) (v := ?_) rfl (by kernel_rfl) (by kernel_rfl) (by kernel_rfl) (fun _ _ _ h => h) (Or.inl ⟨by rfl, ?_⟩) (by assumption) ?_
  rotate_left
  · intro w hSw; (try dsimp only at hSw); go_simp; (try with_reducible rfl)
  try simp only [Act.put, List.setIfInBounds_toArray, List.set_cons_zero, List.set_cons_succ, List.getElem_toArray, List.getElem_cons_zero, List.getElem_cons_succ]
  refine wpAnyH_take (i := 20) (v := ?_) rfl (by kernel_rfl) (by kernel_rfl) (by kernel_rfl) (fun _ _ _ h => h) (Or.inl ⟨by rfl, ?_⟩) (by assumption) ?_
  rotate_left
  · intro w hSw; (try dsimp only at hSw); go_simp; (try with_reducible rfl)
  try simp only [Act.put, List.setIfInBounds_toArray, List.set_cons_zero, List.set_cons_succ, List.getElem_toArray, List.getElem_cons_zero, List.getElem_cons_succ]
  refine wpAnyH_take (i := 21) (v := ?_) rfl (by kernel_rfl) (by kernel_rfl) (by kernel_rfl) (fun _ _ _ h => h) (Or.inl ⟨by rfl, ?_⟩) (by assumption) ?_
  rotate_left
  · intro w hSw; (try dsimp only at hSw); go_simp; (try with_reducible rfl)
  try simp only [Act.put, List.setIfInBounds_toArray, List.set_cons_zero, List.set_cons_succ, List.getElem_toArray, List.getElem_cons_zero, List.getElem_cons_succ]
  have hb9 : Below w8.heap.size w8 (w8.alloc (.cells #[.int .u8 (b.toNat : Int)] 5)) := (Below.refl _ w8).alloc (Nat.le_refl _) _
  have f9 : Fr x8 (paint x8 w8.heap.size 70) (fun e => e = 70) w8 (w8.alloc (.cells #[.int .u8 (b.toNat : Int)] 5)) := Fr.of_below hb9 rfl
  have own9 : (w8.alloc (.cells #[.int .u8 (b.toNat : Int)] 5)).ownsRow 0 5 1 (.slice (some ⟨w8.heap.size, 0, none⟩) 1 1) [b].length (bv [b]) := ⟨rfl, .inr ⟨w8.heap.size, 1, #[.int .u8 (b.toNat : Int)], rfl, Nat.zero_le _, World.alloc_heap_new w8 _, Nat.le_refl _, by simp only [maxLen]; omega, rfl, rfl⟩⟩
  have hcv := row_text own9
  have S9 := Lib.hid (S8.out.frame f9 (fun e he hc => by subst hc; exact nPC (by omega) (PD_PC 0 20 _ he)))
  have F9 : Hid (Fr x6 (paint x8 w8.heap.size 70) (fun e => e ≤ 95) w6 (w8.alloc (.cells #[.int .u8 (b.toNat : Int)] 5))) := Lib.hid ((fr_undrew (F8.out.mono (fun e he => PC_AQ e he))).trans (f9.mono (fun e he => by omega)))
  have hH9 := HS0.out _ ⟨_, F9.out⟩
  have hI8 := I8.out
  have CO := Lib.hid (Corrupt_any (paint x8 w8.heap.size 70) 20 db D (0 + 5000 + 9000) (w8.alloc (.cells #[.int .u8 (b.toNat : Int)] 5)) (2 + (zq : Int)) zr ⟨#[b]⟩ S9.out.2 hI8.ok.dev Q8.out.2.1 (by omega) (by rw [hI8.nb]; omega) (by
    have q : D.size = sz := by unfold Dev.size; rw [hI8.ns, HSZ.out]
    rw [q]; show zr + 1 ≤ sz; omega) (by omega))
  clear hI8 f9 own9 hb9 F8 S8
  refine wpAnyH_ready (rs := [22]) (by kernel_rfl) (by simp) ?_
  refine AllReadyH.cons rfl (fun K hK => ?_) AllReadyH.nil
  go_simp
  refine hK.out _ _ ?_ (fun hHeld3 => ?_)
  · exact hH9
  clear hK K hHeld2
  try simp only [Act.put, List.setIfInBounds_toArray, List.set_cons_zero, List.set_cons_succ, List.getElem_toArray, List.getElem_cons_zero, List.getElem_cons_succ]
  refine wpAnyH_ready (rs := [23]) (by kernel_rfl) (by simp) ?_
  refine AllReadyH.cons rfl (fun K hK => ?_) AllReadyH.nil
  go_simp
  refine hK.out _ _ ?_ (fun hHeld4 => ?_)
  · exact hHeld3
  clear hK K hHeld3 hcv
  try simp only [Act.put, List.setIfInBounds_toArray, List.set_cons_zero, List.set_cons_succ, List.getElem_toArray, List.getElem_cons_zero, List.getElem_cons_succ]
  refine wpAnyH_ready (rs := [24]) (by kernel_rfl) (by simp) ?_
  refine AllReadyH.cons rfl (fun K hK => ?_) AllReadyH.nil
  go_simp
  with_reducible refine Calls.mono CO.out ?_
  rintro e w10 ⟨rfl, x10, f10, d10⟩
  have F10 := Lib.hid (F9.out.trans (f10.mono (fun e he => by have := he.1; have := he.2; omega)))
  have hH10 := HS0.out w10 ⟨x10, F10.out⟩
  have SA := Lib.hid (SQ.corrupt S9.out I8.out Q8.out (.inl (by omega)) (n := 2 + (zq : Int)) (P8.out _ (by omega) (by omega)) (by
    rw [overB_size _ _ _ (by rw [← now_kept Q8.out.2.1, Q8.out.2.2, HVS.out]; exact hzr2), ← now_kept Q8.out.2.1, Q8.out.2.2, HVS.out, HSZ.out]) f10 d10)
  clear f10 d10 CO F9 S9
  go_wp2_with fail
  refine hK.out _ _ ?_ (fun hHeld5 => ?_)
  · exact hH10
  clear hK K hHeld4
  try simp only [Act.put, List.setIfInBounds_toArray, List.set_cons_zero, List.set_cons_succ, List.getElem_toArray, List.getElem_cons_zero, List.getElem_cons_succ]
  refine wpAnyH_take (i := 25) (v := ?_) rfl (by kernel_rfl) (by kernel_rfl) (by kernel_rfl) (fun _ _ _ h => h) (Or.inl ⟨by rfl, ?_⟩) (by assumption) ?_
  rotate_left
  · intro w hSw; (try dsimp only at hSw); go_simp; (try with_reducible rfl)
  try simp only [Act.put, List.setIfInBounds_toArray, List.set_cons_zero, List.set_cons_succ, List.getElem_toArray, List.getElem_cons_zero, List.getElem_cons_succ]
  refine wpAnyH_take (i := 26) (v := ?_) rfl (by kernel_rfl) (by kernel_rfl) (by kernel_rfl) (fun _ _ _ h => h) (Or.inl ⟨by rfl, ?_⟩) (by assumption) ?_
  rotate_left
  · intro w hSw; (try dsimp only at hSw); go_simp; (try with_reducible rfl)
  try simp only [Act.put, List.setIfInBounds_toArray, List.set_cons_zero, List.set_cons_succ, List.getElem_toArray, List.getElem_cons_zero, List.getElem_cons_succ]
  refine wpAnyH_done (by kernel_rfl) ?_ _
  obtain ⟨V1, hV1⟩ : ∃ V1 : Int → ByteArray, V1 = (fun i => if i = ((2 : Nat) : Int) + ((z / sz : Nat) : Int) then overB (V (((2 : Nat) : Int) + ((z / sz : Nat) : Int))) (z % sz) ⟨#[b]⟩ else V i) := ⟨_, rfl⟩
  have TU : Hid (Turned V1 n sz all z b T.size sn) := Lib.hid (by
    rw [hV1]
    exact turned_of (c := c) (by have q := CL.out; rw [HSZ.out] at q; exact q) FT.out HVS.out (by omega) o1 (by rw [HTS.out]; exact HO3.out) (by rw [HTS.out]; exact hz2) HAC.out HBC.out)
  have SB : Hid (SQ (QV V1) x10 0 20 w10 sb db eb 14001 m V1) := Lib.hid (by
    have q := SA.out
    rw [← now_kept Q8.out.2.1, Q8.out.2.2] at q
    rw [hV1, HZQ.out, HZR.out]
    exact q)
  have F11 : Hid (Fr (fun _ => 100) x10 AQ2 w w10) := Lib.hid (F6.out.trans (F10.out.mono (fun e he => by show e ≤ 99; omega)))
  obtain ⟨k0, k1, q0, q1⟩ := hH10
  clear SA hV1 hH0 hH8 hH9 hHeld5 F10 I8 Q8 P8 HS0 k0 e1 e2 e3 e4
  go_wp2_with fail
  clear k1 q0 q1
  have hmm : 1 ≤ m ∧ m ≤ 8 := by omega
  have HL : Hid (T.size ≤ n * (512 * m) - 12) := Lib.hid (by rw [HSZ.out]; exact HO3.out)
  refine (Open_any x10 70 0 20 w10 sb db eb 14001 m 2 n T.size sn V1 SB.out (.inl (by omega)) (nPC (by omega)) o1 (by omega) (by omega) (by rw [HSZ.out]; exact TU.out.foot) HL.out hsl).mono ?_
  rintro e w11 ⟨rr, x11, rfl, f11, ri11, xr11, -, s11⟩
  have S11 := Lib.hid s11
  have RI11 := Lib.hid ri11
  have XR11 := Lib.hid xr11
  have F12 := Lib.hid (F11.out.trans (f11.mono (D := AQ2) (fun e he => by
    rcases he with he | he
    · have := PC_AQ e he; show e ≤ 99; omega
    · show e ≤ 99; omega)))
  clear f11 ri11 xr11 s11 SB F11
  have hrd : readL V1 2 (512 * m) 0 T.size = all.set z b := by
    rw [HSZ.out, TU.out.read 0 T.size (by rw [HTS.out]; omega), List.drop_zero, List.take_of_length_le (by rw [List.length_set, HTS.out]; exact Nat.le_refl _)]
  have HNE : Hid (¬ onS 0 (readL V1 2 (512 * m) 0 T.size) = (sn : Int)) := Lib.hid (by
    rw [hrd, ← HSUM.out]; exact TU.out.sum)
  clear hrd
  have nRC : ∀ e, RC 0 20 71 e → e ≤ 95 ∧ e ≠ 70 := fun e he => by
    rcases he with he | he | he
    · exact ⟨PC_AQ e he, fun h => by subst h; exact nPC (by omega) he⟩
    · omega
    · omega
  have NRC := Lib.hid nRC
  clear nRC
  go_wp2_with fail
  refine (Verify_any x11 71 0 20 w11 rr sb db eb (14001 + 8) m 2 n T.size sn V1 S11.out RI11.out (.inl (by omega)) (nPC (by omega)) (nPC (by omega)) (by rw [XR11.out]; exact nPC (by omega)) (by rw [XR11.out]; exact ⟨by omega, by omega⟩) o1 (by omega) HL.out (by omega)).mono ?_
  rintro e w12 ⟨he, x12, f12, s12⟩
  rw [if_neg HNE.out] at he
  subst he
  have S12 := Lib.hid s12
  have RI12 := Lib.hid (RI11.out.frame (f12.old _ (lt_of_block RI11.out) (by rw [XR11.out]; intro h; exact (NRC.out _ h).2 rfl)))
  have XR12 := Lib.hid ((f12.col _ (lt_of_block RI11.out)).trans XR11.out)
  have F13 := Lib.hid (F12.out.trans (f12.mono (D := AQ2) (fun e he => by have := (NRC.out e he).1; show e ≤ 99; omega)))
  clear f12 s12 S11 RI11 XR11 F12
  go_wp2_with fail
  refine (ReadAt_any x12 71 0 20 w12 rr sb db eb _ m 2 n T.size sn V1 S12.out RI12.out (.inl (by omega)) (nPC (by omega)) (nPC (by omega)) (by rw [XR12.out]; exact nPC (by omega)) (by rw [XR12.out]; exact ⟨by omega, by omega⟩) o1 (by omega) HL.out z 1 (by omega) (by omega)).mono ?_
  rintro e w13 ⟨rfl, x13, f13, -⟩
  have hr1 : readL V1 2 (512 * m) z 1 = [b] := by
    rw [HSZ.out, TU.out.read z 1 (by rw [HTS.out]; omega)]; exact TU.out.one
  rw [hr1]
  have F14 := Lib.hid (F13.out.trans (f13.mono (D := AQ2) (fun e he => by have := (NRC.out e he).1; show e ≤ 99; omega)))
  have own9 : (w13.alloc (.cells #[.int .u8 (b.toNat : Int)] 5)).ownsRow 0 5 1 (.slice (some ⟨w13.heap.size, 0, none⟩) 1 1) [b].length (bv [b]) := ⟨rfl, .inr ⟨w13.heap.size, 1, #[.int .u8 (b.toNat : Int)], rfl, Nat.zero_le _, World.alloc_heap_new w13 _, Nat.le_refl _, by simp only [maxLen]; omega, rfl, rfl⟩⟩
  have hcv := row_text own9
  have hbel : Hid (Below w.heap.size w (w13.alloc (.cells #[.int .u8 (b.toNat : Int)] 5))) := Lib.hid (by
    have q : Below w.heap.size w w13 := F14.out.below_all (fun b _ hC => by have : (100 : Nat) ≤ 99 := hC; omega)
    exact q.alloc q.size _)
  clear f13 own9 S12 RI12 XR12 F13 F14 hr1
  go_wp2_with fail
  go_ret
  exact ⟨rfl, hbel.out⟩

end Go.Proofs.YtbgbomlmgkgkoaaGreat.st
