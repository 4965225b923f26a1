/- list: Bits, Encode. -/
import Derived.Test.YtflnpcgnenhogaaDoorLsS
import Derived.Test.YtflnpcgnenhogaaDoorLsT
namespace Go.Proofs.YtflnpcgnenhogaaDoor.ls
open Go.RowKit Go.Proofs.YtflnpcgnenhogaaDoor.own Go.Proofs.YtflnpcgnenhogaaDoor.bit

theorem mayN_mayI {x : Nat} {succ ref : List Nat} {r : Nat} {p : Pr} : MayI (p.win : Int) (p.itv : Int) (p.zet : Int) (x : Int) succ ref (r : Int) ↔ MayN x succ ref r p := by
  unfold MayI MayN ParOk Pr.ok
  constructor
  · rintro ⟨⟨h1, h2, h3, h4⟩, ⟨h5, h6⟩, h7, h8, h9, h10, h11⟩
    exact ⟨⟨by omega, by omega, by omega⟩, by omega, h7, h8, by omega, h11.elim (fun h => .inl (by omega)) .inr⟩
  · rintro ⟨⟨h1, h2, h3⟩, h5, h7, h8, h9, h10⟩
    exact ⟨⟨by omega, by omega, by omega, by omega, by omega⟩, by omega, h7, h8, by omega, by omega, h10.elim (fun h => .inl (by omega)) .inr⟩

set_option maxRecDepth 100000 in
set_option maxHeartbeats 6400000 in
theorem lbits_yes (p : Pr) (x : Nat) (w : World) (hG : GL w) (a : Option Addr) (succ : List Nat) (cap : Nat) (b : Option Addr) (ref : List Nat) (capb r : Nat) (hc : succ.length ≤ cap) (hcb : ref.length ≤ capb) (hm : MayN x succ ref r p) (hA : LV w a succ) (hB : LV w b ref) :
    Calls Tryd.prog 9 #[.int .i64 (x : Int), .slice a succ.length cap, .slice b ref.length capb, .int .i64 (r : Int), parV (p.win : Int) (p.itv : Int) (p.zet : Int)] w fun e w' => e = .returned (.tuple #[.int .i64 ((lay x succ ref r p).length : Int), .int .i64 0]) ∧ Below w.heap.size w w' := by
  have MY := Lib.hid (fun W (k : Below w.heap.size w W) => lmay_any (p.win : Int) (p.itv : Int) (p.zet : Int) (x : Int) W a succ cap (hA.below k) b ref capb (hB.below k) (r : Int))
  have NU := Lib.hid (fun W (k : Below w.heap.size w W) => numbers_any p x W (hG.below k) a succ cap b ref capb r hc hcb hm (hA.below k) (hB.below k))
  have YES := Lib.hid (mayN_mayI.2 hm)
  have LL := Lib.hid (lay_len hm)
  obtain ⟨nok, nlen⟩ := nums_ok hm
  have NE := Lib.hid (nums_ne x succ ref r p)
  have LD : Hid (lay x succ ref r p = bitsOf (nums x succ ref r p)) := Lib.hid rfl
  generalize lay x succ ref r p = LB at LL LD ⊢
  generalize nums x succ ref r p = NN at NU nok nlen NE LD
  have NOK := Lib.hid nok
  unfold parV at MY NU ⊢
  clear hG hA hB hm nok
  go_enter Tryd.func9, Tryd.ntmps9
  go_upto_region 1 with fail
  have r1 := heap_alloc_new w (.cells #[.int .i64 (p.win : Int), .int .i64 (p.itv : Int), .int .i64 (p.zet : Int)] 38)
  have kb : Below w.heap.size w (w.alloc (.cells #[.int .i64 (p.win : Int), .int .i64 (p.itv : Int), .int .i64 (p.zet : Int)] 38)) := (by repeat (first | exact Below.refl _ _ | refine below_drewN ?_ _ | refine Below.setCell ?_ (by simp; try omega) _ | refine Below.alloc ?_ (by simp; try omega) _))
  generalize w.alloc _ = W1 at r1 kb ⊢
  have c0 : W1.cell? ⟨w.heap.size, 0, none⟩ = some (.int .i64 (p.win : Int)) := by rw [cell_of_row _ _ _ _ _ _ r1]; rfl
  have c1 : W1.cell? ⟨w.heap.size, 1, none⟩ = some (.int .i64 (p.itv : Int)) := by rw [cell_of_row _ _ _ _ _ _ r1]; rfl
  have c2 : W1.cell? ⟨w.heap.size, 2, none⟩ = some (.int .i64 (p.zet : Int)) := by rw [cell_of_row _ _ _ _ _ _ r1]; rfl
  have KB := Lib.hid kb
  have R1 := Lib.hid r1
  have hl1 := lt_of_block r1
  clear kb r1
  go_wp2_with fail
  with_reducible refine (MY.out _ KB.out).mono ?_
  rintro e w2 ⟨b0, rfl, hb0, k2⟩
  have hb : b0 = true := hb0.2 YES.out
  subst hb
  have K2 := Lib.hid (KB.out.trans (k2.mono KB.out.size))
  have r2 := (k2.block _ hl1).trans R1.out
  clear hb0 c0 c1 c2 k2
  have c0 : w2.cell? ⟨w.heap.size, 0, none⟩ = some (.int .i64 (p.win : Int)) := by rw [cell_of_row _ _ _ _ _ _ r2]; rfl
  have c1 : w2.cell? ⟨w.heap.size, 1, none⟩ = some (.int .i64 (p.itv : Int)) := by rw [cell_of_row _ _ _ _ _ _ r2]; rfl
  have c2 : w2.cell? ⟨w.heap.size, 2, none⟩ = some (.int .i64 (p.zet : Int)) := by rw [cell_of_row _ _ _ _ _ _ r2]; rfl
  clear r2
  go_wp2_with fail
  with_reducible refine (NU.out _ K2.out).mono ?_
  rintro e w3 hN
  obtain ⟨g, cg, cur, rfl, hg1, hg2, hk, CC⟩ := hN.lies NE.out
  have K3 := Lib.hid (K2.out.trans (hk.mono K2.out.size))
  have CC := Lib.hid CC
  have G2 := Lib.hid hg2
  have HK := Lib.hid hk
  clear hN hg1 hg2 hk c0 c1 c2
  obtain ⟨n, hn⟩ : ∃ n, NN.length = n := ⟨_, rfl⟩
  have HN := Lib.hid hn
  rw [hn] at nlen ⊢
  clear hn
  go_wp2_with fail
  go_loopw [12, 31] (fun va vi wr => ∃ i : Nat, vi = .int .i64 (i : Int) ∧ i ≤ n ∧ va = .int .i64 ((bitsOf (NN.take i)).length : Int) ∧ Below w3.heap.size w3 wr) (fun _ vi _ => n - (intOf vi).toNat)
  case atStart => exact ⟨0, rfl, Nat.zero_le _, rfl, Below.refl _ _⟩
  case round =>
    obtain ⟨i, rfl, hi, rfl, hk⟩ := hrel
    have HKR := Lib.hid hk
    by_cases hlt : i < n
    · have hin : i < NN.length := by rw [HN.out]; exact hlt
      obtain ⟨kd, kk, e1, e2, e3, e4⟩ := CC.out wr ((hk.block _ (lt_of_block G2.out)).trans G2.out) i hin
      have hq := NOK.out _ (List.getElem_mem hin)
      have BT := Lib.hid (bitsOf_take NN i hin)
      have BL := bits_take_le NN (i + 1)
      rw [BT.out] at BL
      rw [← LD.out, List.length_append] at BL
      have hll := LL.out
      have CL := Lib.hid (fun W => clen_any NN[i].1 hq.1 NN[i].2 hq.most W)
      rw [e1] at CL
      obtain ⟨v, hv⟩ : ∃ v, NN[i].2 = v := ⟨_, rfl⟩
      rw [hv] at e4 CL
      obtain ⟨cl, hcl⟩ : ∃ cl, (cb NN[i].1 NN[i].2).length = cl := ⟨_, rfl⟩
      have hcl2 := hcl
      rw [hv] at hcl2
      rw [hcl2] at CL
      rw [hcl] at BL
      have HCL := Lib.hid hcl
      obtain ⟨tl, htl⟩ : ∃ tl, (bitsOf (NN.take i)).length = tl := ⟨_, rfl⟩
      rw [htl] at BL ⊢
      have HTL := Lib.hid htl
      have KA : Hid (∀ W, Below (wr.alloc (.cells #[.int .u8 kd, .int .u64 kk, .int .u64 (v : Int)] 87)).heap.size (wr.alloc (.cells #[.int .u8 kd, .int .u64 kk, .int .u64 (v : Int)] 87)) W → Below w3.heap.size w3 W) := Lib.hid (fun W k => HKR.out.trans ((below_alloc k).mono HKR.out.size))
      have i1 : (i : Int) < (n : Int) := by omega
      have i0 : (0 : Int) ≤ (i : Int) := Int.natCast_nonneg i
      have hsum : tl + cl ≤ 5243040 := by omega
      clear hv hcl hcl2 htl hq e1 hk hll BL
      go_wp2_with fail
      with_reducible refine (CL.out _).mono ?_
      rintro e w4 ⟨rfl, k4⟩
      have K4 := Lib.hid (KA.out _ k4)
      clear k4 e2 e3 e4
      go_wp2_with fail
      go_roundw
      case rel => exact ⟨i + 1, by go_num, by omega, by rw [BT.out, List.length_append, HTL.out, HCL.out]; rfl, K4.out⟩
      case measure => simp [intOf]; omega
    · obtain rfl : i = n := by omega
      have FIN : Hid ((bitsOf (NN.take i)).length = LB.length) := Lib.hid (by rw [List.take_of_length_le (by rw [HN.out]; exact Nat.le_refl _), LD.out])
      rw [FIN.out]
      have i1 : ¬ (i : Int) < (i : Int) := by omega
      clear hk
      go_wp2_with fail
      go_ret2
      exact ⟨rfl, K3.out.trans (HKR.out.mono K3.out.size)⟩

set_option maxRecDepth 100000 in
set_option maxHeartbeats 6400000 in
theorem lbits_no (win itv zet x : Int) (w : World) (a : Option Addr) (succ : List Nat) (cap : Nat) (b : Option Addr) (ref : List Nat) (capb : Nat) (r : Int) (hm : ¬ MayI win itv zet x succ ref r) (hA : LV w a succ) (hB : LV w b ref) :
    Calls Tryd.prog 9 #[.int .i64 x, .slice a succ.length cap, .slice b ref.length capb, .int .i64 r, parV win itv zet] w fun e w' => e = .returned (.tuple #[.int .i64 0, .int .i64 1]) ∧ Below w.heap.size w w' := by
  have MY := Lib.hid (fun W (k : Below w.heap.size w W) => lmay_any win itv zet x W a succ cap (hA.below k) b ref capb (hB.below k) r)
  have NO := Lib.hid hm
  unfold parV at MY ⊢
  clear hA hB hm
  go_enter Tryd.func9, Tryd.ntmps9
  go_upto_region 1 with fail
  have r1 := heap_alloc_new w (.cells #[.int .i64 win, .int .i64 itv, .int .i64 zet] 38)
  have kb : Below w.heap.size w (w.alloc (.cells #[.int .i64 win, .int .i64 itv, .int .i64 zet] 38)) := (by repeat (first | exact Below.refl _ _ | refine below_drewN ?_ _ | refine Below.setCell ?_ (by simp; try omega) _ | refine Below.alloc ?_ (by simp; try omega) _))
  generalize w.alloc _ = W1 at r1 kb ⊢
  have c0 : W1.cell? ⟨w.heap.size, 0, none⟩ = some (.int .i64 win) := by rw [cell_of_row _ _ _ _ _ _ r1]; rfl
  have c1 : W1.cell? ⟨w.heap.size, 1, none⟩ = some (.int .i64 itv) := by rw [cell_of_row _ _ _ _ _ _ r1]; rfl
  have c2 : W1.cell? ⟨w.heap.size, 2, none⟩ = some (.int .i64 zet) := by rw [cell_of_row _ _ _ _ _ _ r1]; rfl
  have KB := Lib.hid kb
  clear kb r1
  go_wp2_with fail
  with_reducible refine (MY.out _ KB.out).mono ?_
  rintro e w2 ⟨b0, rfl, hb0, k2⟩
  have hb : b0 = false := by
    cases b0
    · rfl
    · exact absurd (hb0.1 rfl) NO.out
  subst hb
  have K2 := Lib.hid (KB.out.trans (k2.mono KB.out.size))
  clear hb0 c0 c1 c2 k2
  go_wp2_with fail
  go_ret2
  exact ⟨rfl, K2.out⟩
end Go.Proofs.YtflnpcgnenhogaaDoor.ls
