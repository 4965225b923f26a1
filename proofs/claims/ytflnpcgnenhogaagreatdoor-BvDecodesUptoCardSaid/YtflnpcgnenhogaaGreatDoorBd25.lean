/- Own lemmas, laid together. -/
import Derived.Test.YtflnpcgnenhogaaGreatDoorBd20
import Derived.Test.YtflnpcgnenhogaaGreatDoorBd19
import Derived.Laws.OwnMore
import Derived.StillTailTactics
import Derived.Deep.CutBlock
namespace Go.Proofs.YtflnpcgnenhogaaGreatDoor.ls
open Go.RowKit Go.Proofs.YtflnpcgnenhogaaGreatDoor.own Go.Proofs.YtflnpcgnenhogaaGreatDoor.bit

theorem log2_step {n k : Nat} (h : 2 ≤ n / 2 ^ k) : k + 1 ≤ Nat.log2 n := by
 have h0 : n ≠ 0 := by rintro rfl; simp at h
 rw [Nat.le_log2 h0,Nat.pow_succ]
 exact (Nat.le_div_iff_mul_le (Nat.pow_pos (by decide))).1 h |> fun h => by omega
theorem log2_stop {n k : Nat} (hn : 1 ≤ n) (hk : k ≤ Nat.log2 n) (h : ¬ 2 ≤ n / 2 ^ k) : k = Nat.log2 n := by
 have h0 : n ≠ 0 := by omega
 rcases Nat.lt_or_ge k (Nat.log2 n) with hlt | hge
 ·have h1 : 2 ^ (k + 1) <= n := (Nat.le_log2 h0).1 hlt
  rw [Nat.pow_succ] at h1
  exact absurd ((Nat.le_div_iff_mul_le (Nat.pow_pos (by decide))).2 (by omega)) h
 ·omega
set_option maxRecDepth 100000 in
theorem low_any (n : Nat) (hn : 1 ≤ n) (hn2 : n < 18446744073709551616) (w : World) : Calls Tryz.prog 114 #[.int .u64 (n : Int)] w fun e w' => e = .returned (.int .i64 ((Nat.log2 n : Nat) : Int)) ∧ w = w' := by
 have hl : Nat.log2 n < 64 := (Nat.log2_lt (by omega)).2 hn2
 obtain ⟨L,hL⟩ : ∃ L,Nat.log2 n = L := ⟨_,rfl⟩
 have HS := Lib.hid (fun k (h : 2 <= n / 2 ^ k) => hL ▸ log2_step h)
 have HE := Lib.hid (fun k (hk : k <= L) (h : ¬ 2 <= n / 2 ^ k) => hL ▸ log2_stop hn (hL.symm ▸ hk) h)
 have HD : Hid (∀ k,n / 2 ^ k / 2 = n / 2 ^ (k + 1) /\ n / 2 ^ k <= n) := Lib.hid (fun k => ⟨by rw [Nat.div_div_eq_div_mul,<- Nat.pow_succ],Nat.div_le_self _ _⟩)
 rw [hL] at hl ⊢
 clear hL
 go_enter Tryz.func114,Tryz.ntmps114
 go_wp2_with fail
 go_loopw [0,3] (fun v0 v3 wr => ∃ k : Nat,v0 = .int .u64 ((n / 2 ^ k : Nat) : Int) /\ v3 = .int .i64 (k : Int) /\ k <= L /\ wr = w) (fun _ v3 _ => L - (intOf v3).toNat)
 case atStart => exact ⟨0,by simp,rfl,Nat.zero_le _,rfl⟩
 case round =>
  obtain ⟨k,rfl,rfl,hk,rfl⟩ := hrel
  obtain ⟨q,hq⟩ : ∃ q,n / 2 ^ k = q := ⟨_,rfl⟩
  have S := Lib.hid (hq ▸ HS.out k)
  have E := Lib.hid (hq ▸ HE.out k hk)
  have D := Lib.hid (hq ▸ HD.out k)
  rw [hq]
  have hq9 : q <= n := D.out.2
  clear hq
  by_cases h2 : 2 <= q
  ·have i1 : decide ((1 : Int) < (q : Int)) = true := decide_eq_true (by omega)
   have hS := S.out h2
   clear h2
   go_wp2_with fail
   go_roundw
   case rel => exact ⟨k + 1,by rw [<- D.out.1]; first | rfl | (congr 1; omega),by go_num,hS,by first | rfl | trivial⟩
   case measure => simp [intOf]; omega
  ·have i1 : decide ((1 : Int) < (q : Int)) = false := decide_eq_false (by omega)
   obtain rfl := E.out h2
   clear h2
   go_wp2_with fail
   go_ret
   exact ⟨rfl,rfl⟩
theorem bls_zeros (n : Nat) : (madeCells (Value.bool false).cells (n * 1)).toList = bls (List.replicate n false) := by
 have e : (Value.bool false).cells = #[.bool false] := rfl
 rw [e,toList_madeCells_one]
 simp [bls]
theorem un_set (v : Nat) : (bls (List.replicate (v + 1) false)).set v (.bool true) = bls (un v) := by
 unfold bls
 rw [<- List.map_set]
 congr 1
 unfold un
 rw [List.replicate_succ', List.set_append_right _ _ (by simp)]
 simp
set_option maxRecDepth 100000 in
theorem unary_any (v : Nat) (hv : v ≤ 65535) (w : World) : Calls Tryz.prog 115 #[.int .u64 (v : Int)] w (RowPost (un v) w) := by
 obtain ⟨i0,hi,hz0,hz1,hz2⟩ := info_parts Tryz.infoBool
 obtain ⟨N,hN⟩ : ∃ N,v + 1 = N := ⟨_,rfl⟩
 obtain ⟨w1,hrun,hown,hg⟩ := run_make_full w w.heap.size 26 4 i0 _ 1 Tryz.underlying26 hi hz0 hz1 .u64 .u64 N (by rw [hz2]; omega) (by simp only [maxLen]; omega) (Nat.le_refl _)
 rw [bls_zeros] at hown
 have hb1 : Below w.heap.size w w1 := ⟨hg.os,hg.tape,hg.output,hg.size,fun k hk => hg.block k hk (by simp)⟩
 have hrun1 : (Instr.makeSlice 26 (.int .u64 (N : Int)) (.int .u64 (N : Int))).run Tryz.prog w = .ok (.slice (some ⟨w.heap.size,0,none⟩) N N) w1 := hrun
 have hst := hown.stored v (.bool true)
 have US := Lib.hid (un_set v)
 rw [hN] at US
 have HO := Lib.hid hown
 have HB := Lib.hid hb1
 have hNI : (v : Int) + 1 = (N : Int) := by omega
 have fz : ∀ i,w1.frozen? ⟨w.heap.size,i,none⟩ = false := fun i => hown.frozenAt i
 have cc : ∃ b,w1.cell? ⟨w.heap.size,v,none⟩ = some (.bool b) := by
  rw [hown.cellAt v (by omega)]
  exact ⟨false,by simp [bls,<- hN]⟩
 obtain ⟨b,cc⟩ := cc
 have HST := Lib.hid hst
 have hvN : v < N := by omega
 have HUL : Hid ((un v).length = N) := Lib.hid (by rw [un_length,hN])
 clear hown hb1 hg hst hrun hN
 go_enter Tryz.func115,Tryz.ntmps115
 go_wp2_with fail
 go_ret
 refine ⟨_,rfl,?_,?_⟩
 ·rw [HUL.out,<- US.out]
  exact HST.out.1
 ·exact HB.out.setCell (Nat.le_refl _) _
theorem clog_below {s k : Nat} (hk : 1 ≤ k) (h : s < clog k) : 2 ^ s < k := by
 have h2 : 2 <= k := by
  rcases Nat.lt_or_ge k 2 with h1 | h1
  ·rw [clog_one (by omega)] at h; omega
  ·exact h1
 have h3 := (clog_lt h2).2
 have h4 : 2 ^ s <= 2 ^ (clog k - 1) := Nat.pow_le_pow_right (by decide) (by omega)
 omega
set_option maxRecDepth 100000 in
theorem minimal_any (v k : Nat) (hk : 1 ≤ k) (hc : clog k ≤ 62) (hv : v < k) (w : World) : Calls Tryz.prog 117 #[.int .u64 (v : Int), .int .u64 (k : Int)] w (RowPost (mini v k) w) := by
 obtain ⟨S,hS⟩ : ∃ S,clog k = S := ⟨_,rfl⟩
 have HS : Hid (∀ s,s < S -> 2 ^ s < k) := Lib.hid (fun s h => clog_below hk (by rw [hS]; exact h))
 have hP := @clog_le k
 have hM : mini v k = if v < 2 ^ S - k then ofN (S - 1) v else ofN S (v + (2 ^ S - k)) := by unfold mini; rw [hS]
 rw [hS] at hP hc
 have hP2 : 2 ^ S <= 4611686018427387904 := by
  have : (2 : Nat) ^ S <= 2 ^ 62 := Nat.pow_le_pow_right (by decide) hc
  exact this
 have HM := Lib.hid hM
 have HP := Lib.hid hP
 have HP2 := Lib.hid hP2
 clear hS hM hP hP2
 go_enter Tryz.func117,Tryz.ntmps117
 go_upto_block 0 with fail
 go_cut [5] from 7 to 16 (fun v5 wc => v5 = .int .i64 (S : Int) /\ wc = w)
 case first =>
  go_wp2_with fail
  go_loopw [5] (fun v5 wr => ∃ s : Nat,v5 = .int .i64 (s : Int) /\ s <= S /\ wr = w) (fun v5 _ => S - (intOf v5).toNat)
  case atStart => exact ⟨0,rfl,Nat.zero_le _,rfl⟩
  case round =>
   obtain ⟨s,rfl,hs,rfl⟩ := hrel
   have i1 : decide ((s : Int) < (63 : Int)) = true := decide_eq_true (by omega)
   obtain ⟨q,hq⟩ : ∃ q,2 ^ s = q := ⟨_,rfl⟩
   have hq9 : q <= 4611686018427387904 := by
    rw [<- hq]
    exact Nat.le_trans (Nat.pow_le_pow_right (by decide) hs) HP2.out
   have e3 := u64_pow s q hq (by omega)
   have Q1 : Hid (s < S -> q < k) := Lib.hid (fun h => hq ▸ HS.out s h)
   have Q2 : Hid (s = S -> k <= q) := Lib.hid (fun h => by rw [<- hq,h]; exact HP.out)
   clear hq
   by_cases hlt : s < S
   ·have h3 := Q1.out hlt
    have i2 : decide ((q : Int) < (k : Int)) = true := decide_eq_true (by omega)
    have i2n : decide (q < k) = true := decide_eq_true h3
    clear h3
    go_wp2_with fail
    go_roundw
    case rel => exact ⟨s + 1,by go_num,by omega,by first | rfl | trivial⟩
    case measure => simp [intOf]; omega
   ·have hss : s = S := by omega
    have h3 := Q2.out hss
    have i2 : decide ((q : Int) < (k : Int)) = false := decide_eq_false (by omega)
    have i2n : decide (q < k) = false := decide_eq_false (by omega)
    subst hss
    clear h3
    go_wp2_with fail
    go_meet
    case rel => exact ⟨rfl,rfl⟩
 case rest =>
  obtain ⟨rfl,rfl⟩ := hcut
  obtain ⟨q,hq⟩ : ∃ q,2 ^ S = q := ⟨_,rfl⟩
  rw [hq] at HM HP HP2
  have hq9 := HP2.out
  have hkq := HP.out
  have e3 := u64_pow S q hq (by omega)
  have e4 := u64_sub q k hkq (by omega)
  obtain ⟨m,hm⟩ : ∃ m,q - k = m := ⟨_,rfl⟩
  rw [hm] at HM e4
  have hm9 : m <= q := by omega
  rename World => w1
  by_cases hvm : v < m
  ·have i1 : decide ((v : Int) < (m : Int)) = true := decide_eq_true (by omega)
   have i1n : decide (v < m) = true := decide_eq_true hvm
   have hS1 : 1 <= S := by
    rcases Nat.eq_zero_or_pos S with h | h
    ·rw [h] at hq; simp at hq; omega
    ·exact h
   have hSI : (S : Int) - 1 = ((S - 1 : Nat) : Int) := by omega
   obtain ⟨S1,hS1e⟩ : ∃ z,S - 1 = z := ⟨_,rfl⟩
   rw [hS1e] at hSI HM
   have OF := Lib.hid (Of_any S1 v (by omega) (by omega) w1)
   have HM2 : Hid (mini v k = ofN S1 v) := Lib.hid (by rw [HM.out,if_pos hvm])
   clear hq hm hvm hS1
   go_wp2_with fail
   with_reducible refine OF.out.mono ?_
   rintro e w2 ⟨u,rfl,hown,hb⟩
   have HO := Lib.hid (And.intro hown hb)
   clear hown hb
   go_wp2_with fail
   go_ret
   rw [HM2.out]
   exact ⟨_,rfl,HO.out⟩
  ·have i1 : decide ((v : Int) < (m : Int)) = false := decide_eq_false (by omega)
   have i1n : decide (v < m) = false := decide_eq_false hvm
   obtain ⟨t,ht⟩ : ∃ t,v + m = t := ⟨_,rfl⟩
   have htI : (v : Int) + (m : Int) = (t : Int) := by omega
   have OF := Lib.hid (Of_any S t (by omega) (by omega) w1)
   have HM2 : Hid (mini v k = ofN S t) := Lib.hid (by rw [HM.out,if_neg hvm,ht])
   clear hq hm hvm ht
   go_wp2_with fail
   with_reducible refine OF.out.mono ?_
   rintro e w2 ⟨u,rfl,hown,hb⟩
   have HO := Lib.hid (And.intro hown hb)
   clear hown hb
   go_wp2_with fail
   go_ret
   rw [HM2.out]
   exact ⟨_,rfl,HO.out⟩
end Go.Proofs.YtflnpcgnenhogaaGreatDoor.ls
