/- Own lemmas, laid together. -/
import Derived.Test.YtflnpcgnenhogaaGreatDoorBd17
import Derived.Test.YtflnpcgnenhogaaGreatDoorBd1
import Derived.BigQuiet
import Derived.BigRegion
import Derived.Deep.CutRange
import Derived.Test.YtflnpcgnenhogaaGreatDoorShelf
import Derived.StillTailTactics
namespace Go.Proofs.YtflnpcgnenhogaaGreatDoor.ls
open Go.RowKit Go.Proofs.YtflnpcgnenhogaaGreatDoor.own Go.Proofs.YtflnpcgnenhogaaGreatDoor.bit

def cdV : Cd → Value
 | .una => .agg #[.int .u8 0,.int .u64 0]
 | .gam => .agg #[.int .u8 1,.int .u64 0]
 | .zet k => .agg #[.int .u8 3,.int .u64 (k : Int)]

theorem below_alloc {w w1 : World} {o : Obj} (k : Below (w.alloc o).heap.size (w.alloc o) w1) : Below w.heap.size w w1 := ((Below.refl _ w).alloc (Nat.le_refl _) o).trans (k.mono (by simp))
theorem box_keeps {w w1 : World} {row : Array Value} {T : TypeId} (k : Below (w.alloc (.cells row T)).heap.size (w.alloc (.cells row T)) w1) : w1.heap[w.heap.size]? = some (.cells row T (0, 0)) := (k.block _ (by simp)).trans (heap_alloc_new w _)

theorem check_any (c : Cd) (hc : c.ok) (w : World) : Calls Tryz.prog 72 #[cdV c] w fun e w' => e = .returned (.int .i64 0) ∧ Below w.heap.size w w' := by
 cases c with
 | una =>
  unfold cdV
  go_enter Tryz.func72,Tryz.ntmps72
  go_wp2_with fail
  go_ret
  exact ⟨rfl,(by repeat (first | exact Below.refl _ _ | refine below_drewN ?_ _ | refine Below.setCell ?_ (by simp; try omega) _ | refine Below.alloc ?_ (by simp; try omega) _))⟩
 | gam =>
  unfold cdV
  go_enter Tryz.func72,Tryz.ntmps72
  go_wp2_with fail
  go_ret
  exact ⟨rfl,(by repeat (first | exact Below.refl _ _ | refine below_drewN ?_ _ | refine Below.setCell ?_ (by simp; try omega) _ | refine Below.alloc ?_ (by simp; try omega) _))⟩
 | zet k =>
  obtain ⟨h1,h2⟩ : 1 <= k /\ k <= 16 := hc
  have i1 : (1 : Int) <= (k : Int) := by omega
  have i2 : (k : Int) <= 16 := by omega
  unfold cdV
  go_enter Tryz.func72,Tryz.ntmps72
  go_wp2_with fail
  go_ret
  exact ⟨rfl,(by repeat (first | exact Below.refl _ _ | refine below_drewN ?_ _ | refine Below.setCell ?_ (by simp; try omega) _ | refine Below.alloc ?_ (by simp; try omega) _))⟩
theorem most_any (c : Cd) (hc : c.ok) (w : World) : Calls Tryz.prog 75 #[cdV c] w fun e w' => e = .returned (.int .u64 (c.most : Int)) ∧ Below w.heap.size w w' := by
 have CH := Lib.hid (fun W => check_any c hc W)
 cases c with
 | una =>
  unfold cdV at CH ⊢
  go_enter Tryz.func75,Tryz.ntmps75
  go_wp2_with fail
  refine (CH.out _).mono ?_
  rintro e w1 ⟨rfl,k1⟩
  have c1 : w1.cell? ⟨w.heap.size,0,none⟩ = some (.int .u8 0) := by rw [cell_of_row _ _ _ _ _ _ (box_keeps k1)]; rfl
  have K : Hid (Below w.heap.size w w1) := Lib.hid (below_alloc k1)
  clear k1
  go_wp2_with fail
  go_ret
  exact ⟨rfl,K.out⟩
 | gam =>
  unfold cdV at CH ⊢
  go_enter Tryz.func75,Tryz.ntmps75
  go_wp2_with fail
  refine (CH.out _).mono ?_
  rintro e w1 ⟨rfl,k1⟩
  have c1 : w1.cell? ⟨w.heap.size,0,none⟩ = some (.int .u8 1) := by rw [cell_of_row _ _ _ _ _ _ (box_keeps k1)]; rfl
  have K : Hid (Below w.heap.size w w1) := Lib.hid (below_alloc k1)
  clear k1
  go_wp2_with fail
  go_ret
  exact ⟨rfl,K.out⟩
 | zet k =>
  unfold cdV at CH ⊢
  go_enter Tryz.func75,Tryz.ntmps75
  go_wp2_with fail
  refine (CH.out _).mono ?_
  rintro e w1 ⟨rfl,k1⟩
  have c1 : w1.cell? ⟨w.heap.size,0,none⟩ = some (.int .u8 3) := by rw [cell_of_row _ _ _ _ _ _ (box_keeps k1)]; rfl
  have K : Hid (Below w.heap.size w w1) := Lib.hid (below_alloc k1)
  clear k1
  go_wp2_with fail
  go_ret
  exact ⟨rfl,K.out⟩
theorem may_any (c : Cd) (hc : c.ok) (v : Nat) (w : World) : Calls Tryz.prog 126 #[cdV c, .int .u64 (v : Int)] w fun e w' => e = .returned (.bool (decide (v ≤ c.most))) ∧ Below w.heap.size w w' := by
 have CH := Lib.hid (fun W => check_any c hc W)
 have MO := Lib.hid (fun W => most_any c hc W)
 have MD : Hid (decide ((v : Int) <= (c.most : Int)) = decide (v <= c.most)) := Lib.hid (decide_eq_decide.2 (by omega))
 obtain ⟨kd,kk,hcd⟩ : ∃ kd kk,cdV c = .agg #[.int .u8 kd,.int .u64 kk] := by cases c <;> exact ⟨_,_,rfl⟩
 rw [hcd] at CH MO ⊢
 generalize c.most = m at MO MD ⊢
 clear hcd
 go_enter Tryz.func126,Tryz.ntmps126
 go_wp2_with fail
 refine (CH.out _).mono ?_
 rintro e w1 ⟨rfl,k1⟩
 have r1 := box_keeps k1
 have c0 : w1.cell? ⟨w.heap.size,0,none⟩ = some (.int .u8 kd) := by rw [cell_of_row _ _ _ _ _ _ r1]; rfl
 have c1 : w1.cell? ⟨w.heap.size,1,none⟩ = some (.int .u64 kk) := by rw [cell_of_row _ _ _ _ _ _ r1]; rfl
 have K : Hid (Below w.heap.size w w1) := Lib.hid (below_alloc k1)
 clear k1 r1
 go_wp2_with fail
 refine (MO.out _).mono ?_
 rintro e w2 ⟨rfl,k2⟩
 go_wp2_with fail
 go_ret
 exact ⟨rfl,K.out.trans (k2.mono K.out.size)⟩

def shP (v k : Nat) : Nat × Nat := if v < 2 ^ clog k - k then (v, clog k - 1) else (v + (2 ^ clog k - k), clog k)
theorem mini_shP (v k : Nat) : mini v k = ofN (shP v k).2 (shP v k).1 := by unfold mini shP; split <;> rfl
theorem aux_log2 : ∀ (f x : Nat), x < 2 ^ f → x ≠ 0 → Lib.bitLenAux f x = Nat.log2 x + 1
 | 0,x,h,h0 => by simp at h; omega
 | f + 1,x,h,h0 => by
  rw [Lib.bitLenAux,if_neg h0]
  by_cases h2 : 2 <= x
  ·rw [aux_log2 f (x / 2) (by rw [Nat.pow_succ] at h; omega) (by omega),Nat.log2_def x,if_pos h2,Nat.add_comm]
  ·obtain rfl : x = 1 := by omega
   have e : Lib.bitLenAux f (1 / 2) = 0 := by cases f <;> rfl
   rw [e]
   rfl
theorem log2_bitLen (x : Nat) (h0 : x ≠ 0) (h : x < 18446744073709551616) : Lib.bitLen x = Nat.log2 x + 1 := aux_log2 64 x h h0
theorem bitLen_clog (k : Nat) (hk : 1 ≤ k) (hk2 : k ≤ 9223372036854775808) : Lib.bitLen (k - 1) = clog k := by
 unfold clog
 by_cases h : k <= 1
 ·rw [if_pos h,show k - 1 = 0 by omega]; rfl
 ·rw [if_neg h,log2_bitLen _ (by omega) (by omega)]
theorem short_any (v k : Nat) (hv : v < k) (hk : k ≤ 9223372036854775808) (w : World) : Calls Tryz.prog 140 #[.int .u64 (v : Int), .int .u64 (k : Int)] w fun e w' =>
  e = .returned (.agg #[.int .u64 ((shP v k).1 : Int),.int .i64 ((shP v k).2 : Int)]) /\ Below w.heap.size w w' := by
 have LN := Lib.hid (fun W => Tryz.bits_Len64 ((k - 1 : Nat) : Int) W (by omega) (by omega))
 rw [Int.toNat_natCast,bitLen_clog k (by omega) hk] at LN
 have e1 : IntKind.u64.wrap ((k : Int) - 1) = ((k - 1 : Nat) : Int) := by rw [IntKind.wrap_u64]; omega
 have h1 := @clog_le k
 have h2 : clog k <= 63 := clog_pow (by rw [show (2 : Nat) ^ 63 = 9223372036854775808 from rfl]; exact hk)
 have h3 : (2 : Nat) ^ clog k <= 9223372036854775808 := by
  calc (2 : Nat) ^ clog k <= 2 ^ 63 := Nat.pow_le_pow_right (by decide) h2
   _ = 9223372036854775808 := rfl
 have h4 : 2 <= k -> 2 ^ clog k < 2 * k /\ 0 < clog k := fun h => by have a := pow_clog h; have b := clog_lt h; omega
 have h5 : k <= 1 -> 2 ^ clog k = 1 := fun h => by rw [clog_one h]
 obtain ⟨P,hP⟩ : ∃ P,shP v k = P := ⟨_,rfl⟩
 have SH := Lib.hid hP
 unfold shP at SH
 rw [hP]
 obtain ⟨s,hs⟩ : ∃ s,clog k = s := ⟨_,rfl⟩
 rw [hs] at LN h1 h2 h3 h4 h5 SH
 obtain ⟨pw,hpw⟩ : ∃ pw,2 ^ s = pw := ⟨_,rfl⟩
 rw [hpw] at h1 h3 h4 h5 SH
 have e2 : IntKind.u64.wrap (2 ^ s) = (pw : Int) := by rw [show ((2 : Int) ^ s) = (pw : Int) by rw [<- hpw]; simp,IntKind.wrap_u64]; omega
 have e3 : IntKind.u64.wrap ((pw : Int) - (k : Int)) = ((pw - k : Nat) : Int) := by rw [IntKind.wrap_u64]; omega
 have hs0 : (0 : Int) <= (s : Int) := by omega
 have hs64 : min s 64 = s := by omega
 clear hP hs hpw
 by_cases hm : v < pw - k
 ·have hlt : ¬ (((pw - k : Nat) : Int) <= (v : Int)) := by omega
  have e4 : IntKind.i64.wrap ((s : Int) - 1) = ((s - 1 : Nat) : Int) := by rw [IntWalk.i64_in _ (by omega)]; omega
  have SH2 := SH.out
  rw [if_pos hm] at SH2
  subst SH2
  clear SH hm h1 h2 h3 h4 h5
  go_enter Tryz.func140,Tryz.ntmps140
  go_wp2_with fail
  refine (LN.out _).mono ?_
  rintro e w1 ⟨rfl,rfl⟩
  go_wp2_with fail
  refine bodyPost_ret (v := .agg #[.int .u64 (v : Int),.int .i64 ((s - 1 : Nat) : Int)]) (by simp [results,Tryz.results140,go_sem, *]) rfl ⟨rfl,?_⟩
  exact (by repeat (first | exact Below.refl _ _ | refine below_drewN ?_ _ | refine Below.setCell ?_ (by simp; try omega) _ | refine Below.alloc ?_ (by simp; try omega) _))
 ·have hlt : (((pw - k : Nat) : Int) <= (v : Int)) := by omega
  have e4 : IntKind.u64.wrap ((v : Int) + ((pw - k : Nat) : Int)) = ((v + (pw - k) : Nat) : Int) := by rw [IntKind.wrap_u64]; omega
  have SH2 := SH.out
  rw [if_neg hm] at SH2
  subst SH2
  clear SH hm h1 h2 h3 h4 h5
  go_enter Tryz.func140,Tryz.ntmps140
  go_wp2_with fail
  refine (LN.out _).mono ?_
  rintro e w1 ⟨rfl,rfl⟩
  go_wp2_with fail
  refine bodyPost_ret (v := .agg #[.int .u64 ((v + (pw - k) : Nat) : Int),.int .i64 (s : Int)]) (by simp [results,Tryz.results140,go_sem, *]) rfl ⟨rfl,?_⟩
  exact (by repeat (first | exact Below.refl _ _ | refine below_drewN ?_ _ | refine Below.setCell ?_ (by simp; try omega) _ | refine Below.alloc ?_ (by simp; try omega) _))

def pcs (c : Cd) (v : Nat) : Nat × (Nat × Nat) :=
 match c with
 | .una => (v,(0,0))
 | .gam => (Nat.log2 (v + 1),(v + 1 - 2 ^ Nat.log2 (v + 1),Nat.log2 (v + 1)))
 | .zet k => (Nat.log2 (v + 1) / k,shP (v + 1 - 2 ^ (Nat.log2 (v + 1) / k * k)) (2 ^ ((Nat.log2 (v + 1) / k + 1) * k) - 2 ^ (Nat.log2 (v + 1) / k * k)))
theorem cb_pcs (c : Cd) (v : Nat) : cb c v = un (pcs c v).1 ++ ofN (pcs c v).2.2 (pcs c v).2.1 := by
 cases c with
 | una => rw [cb_una]; show un v = un v ++ []; rw [List.append_nil]
 | gam => rfl
 | zet k => rw [cb_zet,mini_shP]; rfl
def splV (q : Nat × (Nat × Nat)) : Value := .tuple #[.int .i64 (q.1 : Int), .agg #[.int .u64 (q.2.1 : Int), .int .i64 (q.2.2 : Int), .int .u64 0, .int .i64 0]]
theorem rows3 {w W : World} {a b c : Array Value} {A B C : TypeId} (h : ((w.alloc (.cells a A)).alloc (.cells b B)).alloc (.cells c C) = W) :
  W.heap[w.heap.size]? = some (.cells a A (0,0)) /\ W.heap[w.heap.size + 1]? = some (.cells b B (0,0)) /\ W.heap[w.heap.size + 1 + 1]? = some (.cells c C (0,0)) /\ Below w.heap.size w W := by
 subst h
 have r1 := heap_alloc_new w (.cells a A)
 have r2 := heap_alloc_new (w.alloc (.cells a A)) (.cells b B)
 have r3 := heap_alloc_new ((w.alloc (.cells a A)).alloc (.cells b B)) (.cells c C)
 have z1 : (w.alloc (.cells a A)).heap.size = w.heap.size + 1 := by simp
 have z2 : ((w.alloc (.cells a A)).alloc (.cells b B)).heap.size = w.heap.size + 1 + 1 := by simp
 rw [z1] at r2
 rw [z2] at r3
 refine ⟨?_,?_,r3,(by repeat (first | exact Below.refl _ _ | refine below_drewN ?_ _ | refine Below.setCell ?_ (by simp; try omega) _ | refine Below.alloc ?_ (by simp; try omega) _))⟩
 ·exact (Below.heap_alloc _ _ _ (by omega)).trans ((Below.heap_alloc _ _ _ (by omega)).trans r1)
 ·exact (Below.heap_alloc _ _ _ (by omega)).trans r2
theorem st4 {w W : World} {sz : Nat} (K : Below sz w W) (a b c d : Value) : Below sz w ((((W.setCell ⟨sz + 1, 0, none⟩ a).setCell ⟨sz + 1, 1, none⟩ b).setCell ⟨sz + 1, 2, none⟩ c).setCell ⟨sz + 1, 3, none⟩ d) :=
 (((K.setCell (p := ⟨sz + 1,0,none⟩) (Nat.le_succ sz) a).setCell (p := ⟨sz + 1,1,none⟩) (Nat.le_succ sz) b).setCell (p := ⟨sz + 1,2,none⟩) (Nat.le_succ sz) c).setCell (p := ⟨sz + 1,3,none⟩) (Nat.le_succ sz) d
theorem int_nz (k : Nat) (h : 1 ≤ k) : ¬ (k : Int) = 0 := by omega
theorem u64_pow (m fr : Nat) (h : 2 ^ m = fr) (hl : fr ≤ 9223372036854775808) : IntKind.u64.wrap (2 ^ m) = (fr : Int) := by
 rw [show ((2 : Int) ^ m) = (fr : Int) by rw [<- h]; simp,IntKind.wrap_u64]; omega
theorem u64_mul (fr k tt : Nat) (h : fr * 2 ^ k = tt) (hl : tt ≤ 9223372036854775808) : IntKind.u64.wrap ((fr : Int) * 2 ^ k) = (tt : Int) := by
 rw [show ((fr : Int) * 2 ^ k) = (tt : Int) by rw [<- h]; simp,IntKind.wrap_u64]; omega
theorem u64_sub (a b : Nat) (h : b ≤ a) (ha : a ≤ 9223372036854775808) : IntKind.u64.wrap ((a : Int) - (b : Int)) = ((a - b : Nat) : Int) := by rw [IntKind.wrap_u64]; omega
theorem u64_succ (v u : Nat) (h : v + 1 = u) (hu : u ≤ 9223372036854775808) : IntKind.u64.wrap ((v : Int) + 1) = (u : Int) := by rw [IntKind.wrap_u64]; omega
theorem i64_pred (b : Nat) (h : b ≤ 9223372036854775806) : IntKind.i64.wrap (((b + 1 : Nat) : Int) - 1) = (b : Int) := by rw [IntWalk.i64_in _ (by omega)]; omega
theorem w64_pred (b : Nat) (h : b ≤ 9223372036854775806) : wrap64 ((b : Int) + 1 - 1) = (b : Int) := by rw [IntWalk.wrap64_in _ (by omega)]; omega
theorem i64_mul (h k m : Nat) (e : h * k = m) (hm : m ≤ 64) : IntKind.i64.wrap ((h : Int) * (k : Int)) = (m : Int) := by
 rw [show ((h : Int) * (k : Int)) = (m : Int) by rw [<- e]; simp,IntWalk.i64_in _ (by omega)]
theorem i64_nat (h : Nat) (e : h ≤ 9223372036854775807) : IntKind.i64.wrap (h : Int) = (h : Int) := IntWalk.i64_in _ (by omega)
theorem w64_nat (h : Nat) (e : h ≤ 9223372036854775807) : wrap64 (h : Int) = (h : Int) := IntWalk.wrap64_in _ (by omega)
theorem quo_nat (b k h : Nat) (e : b / k = h) : (b : Int).tdiv (k : Int) = (h : Int) := by rw [Int.tdiv_eq_ediv_of_nonneg (by omega), ← e]; simp
theorem pow63 {a : Nat} (h : a ≤ 63) : 2 ^ a ≤ 9223372036854775808 := by
 have : (2 : Nat) ^ a <= 2 ^ 63 := Nat.pow_le_pow_right (by decide) h
 exact this

set_option maxRecDepth 100000 in
set_option maxHeartbeats 1600000 in
theorem split_any (c : Cd) (hc : c.ok) (v : Nat) (hv : v ≤ c.most) (w : World) : Calls Tryz.prog 124 #[cdV c, .int .u64 (v : Int)] w fun e w' => e = .returned (splV (pcs c v)) ∧ Below w.heap.size w w' := by
 have hv48 : v <= 281474976710654 := by cases c <;> simp only [Cd.most] at hv <;> omega
 have hv63 : v <= 9223372036854775807 := by omega
 obtain ⟨b,hb⟩ : ∃ b,Nat.log2 (v + 1) = b := ⟨_,rfl⟩
 have h1 := Nat.log2_self_le (n := v + 1) (by omega)
 have h3 : Nat.log2 (v + 1) < 48 := log_lt (by rw [show (2 : Nat) ^ 48 = 281474976710656 from rfl]; omega)
 have LN := Lib.hid (fun W => Tryz.bits_Len64 ((v + 1 : Nat) : Int) W (by omega) (by omega))
 rw [Int.toNat_natCast,log2_bitLen (v + 1) (by omega) (by omega)] at LN
 rw [hb] at h1 h3 LN
 obtain ⟨pw,hpw⟩ : ∃ pw,2 ^ b = pw := ⟨_,rfl⟩
 rw [hpw] at h1
 obtain ⟨u,hu⟩ : ∃ u,v + 1 = u := ⟨_,rfl⟩
 have hul : u <= 9223372036854775808 := by omega
 have hb63 : b <= 9223372036854775806 := by omega
 rw [hu] at h1 LN
 have e1 := u64_succ v u hu hul
 have e2 := i64_pred b hb63
 have e2' := w64_pred b hb63
 have e3 := u64_pow b pw hpw (Nat.le_trans h1 hul)
 have e4 := u64_sub u pw h1 hul
 have hb64 : min b 64 = b := Nat.min_eq_left (Nat.le_of_lt (Nat.lt_of_lt_of_le h3 (by decide)))
 cases c with
 | una =>
  unfold cdV pcs splV
  dsimp only
  have e5 := w64_nat v hv63
  have e6 := i64_nat v hv63
  clear hu hv hb hpw h1 h3 hv63 hb63 hul hv48
  go_enter Tryz.func124,Tryz.ntmps124
  go_wp2_with fail
  refine (LN.out _).mono ?_
  rintro e w1 ⟨rfl,rfl⟩
  go_upto_region 4 with fail
  generalize hW : World.alloc (World.alloc (World.alloc w _) _) _ = W
  obtain ⟨r1,r2,r3,kb⟩ := rows3 hW
  have KB := Lib.hid kb
  have a0 : W.cell? ⟨w.heap.size,0,none⟩ = some (.int .u8 0) := by rw [cell_of_row _ _ _ _ _ _ r1]; rfl
  have a1 : W.cell? ⟨w.heap.size,1,none⟩ = some (.int .u64 0) := by rw [cell_of_row _ _ _ _ _ _ r1]; rfl
  have b0 : W.cell? ⟨w.heap.size + 1,0,none⟩ = some (.int .u64 0) := by rw [cell_of_row _ _ _ _ _ _ r2]; rfl
  have b1 : W.cell? ⟨w.heap.size + 1,1,none⟩ = some (.int .i64 0) := by rw [cell_of_row _ _ _ _ _ _ r2]; rfl
  have b2 : W.cell? ⟨w.heap.size + 1,2,none⟩ = some (.int .u64 0) := by rw [cell_of_row _ _ _ _ _ _ r2]; rfl
  have b3 : W.cell? ⟨w.heap.size + 1,3,none⟩ = some (.int .i64 0) := by rw [cell_of_row _ _ _ _ _ _ r2]; rfl
  have bf : ∀ j,W.frozen? ⟨w.heap.size + 1,j,none⟩ = false := fun j => frozen_of_row W _ j _ _ r2
  have g0 : W.cell? ⟨w.heap.size + 1 + 1,0,none⟩ = some (.int .u64 ((u - pw : Nat) : Int)) := by rw [cell_of_row _ _ _ _ _ _ r3]; rfl
  have g1 : W.cell? ⟨w.heap.size + 1 + 1,1,none⟩ = some (.int .i64 (b : Int)) := by rw [cell_of_row _ _ _ _ _ _ r3]; rfl
  have HR2 := Lib.hid r2
  have hsl := lt_of_block r2
  clear hW kb r1 r2 r3
  obtain ⟨sz,hsz⟩ : ∃ k,w.heap.size = k := ⟨_,rfl⟩
  rw [hsz] at a0 a1 b0 b1 b2 b3 bf g0 g1 KB HR2 hsl ⊢
  go_wp2_with fail
  generalize hW4 : ({ W with drawn := W.drawn + 1 } : World) = W4
  have d0 : W4.cell? ⟨sz + 1,0,none⟩ = some (.int .u64 0) := by rw [<- hW4]; exact b0
  have d1 : W4.cell? ⟨sz + 1,1,none⟩ = some (.int .i64 0) := by rw [<- hW4]; exact b1
  have d2 : W4.cell? ⟨sz + 1,2,none⟩ = some (.int .u64 0) := by rw [<- hW4]; exact b2
  have d3 : W4.cell? ⟨sz + 1,3,none⟩ = some (.int .i64 0) := by rw [<- hW4]; exact b3
  have d4 : W4.cell? ⟨sz + 1 + 1,0,none⟩ = some (.int .u64 ((u - pw : Nat) : Int)) := by rw [<- hW4]; exact g0
  have d5 : W4.cell? ⟨sz + 1 + 1,1,none⟩ = some (.int .i64 (b : Int)) := by rw [<- hW4]; exact g1
  have df : ∀ j,W4.frozen? ⟨sz + 1,j,none⟩ = false := by rw [<- hW4]; exact bf
  have K4 : Hid (Below sz w W4) := Lib.hid (by rw [<- hW4]; exact KB.out.drew)
  refine wp_region_still_tail 4 (by kernel_rfl) (by kernel_rfl) ?_
  simp only [List.take_succ_cons,List.take_zero,List.drop_succ_cons,List.drop_zero]
  rw [hW4]
  clear hW4
  repeat still_step
  refine wpStill_nil ?_
  go_wp2_with fail
  refine bodyPost_ret (v := .tuple #[.int .i64 (v : Int),.agg #[.int .u64 0,.int .i64 0,.int .u64 0,.int .i64 0]]) (by simp [results,Tryz.results124,go_sem, *]) rfl ⟨rfl,?_⟩
  rw [hsz]
  exact st4 K4.out _ _ _ _
 | gam =>
  unfold cdV pcs splV
  dsimp only
  rw [hb,hpw,hu]
  clear hu hv hb hpw h1 h3 hv63 hb63 hul hv48
  go_enter Tryz.func124,Tryz.ntmps124
  go_wp2_with fail
  refine (LN.out _).mono ?_
  rintro e w1 ⟨rfl,rfl⟩
  go_upto_region 4 with fail
  generalize hW : World.alloc (World.alloc (World.alloc w _) _) _ = W
  obtain ⟨r1,r2,r3,kb⟩ := rows3 hW
  have KB := Lib.hid kb
  have a0 : W.cell? ⟨w.heap.size,0,none⟩ = some (.int .u8 1) := by rw [cell_of_row _ _ _ _ _ _ r1]; rfl
  have a1 : W.cell? ⟨w.heap.size,1,none⟩ = some (.int .u64 0) := by rw [cell_of_row _ _ _ _ _ _ r1]; rfl
  have b0 : W.cell? ⟨w.heap.size + 1,0,none⟩ = some (.int .u64 0) := by rw [cell_of_row _ _ _ _ _ _ r2]; rfl
  have b1 : W.cell? ⟨w.heap.size + 1,1,none⟩ = some (.int .i64 0) := by rw [cell_of_row _ _ _ _ _ _ r2]; rfl
  have b2 : W.cell? ⟨w.heap.size + 1,2,none⟩ = some (.int .u64 0) := by rw [cell_of_row _ _ _ _ _ _ r2]; rfl
  have b3 : W.cell? ⟨w.heap.size + 1,3,none⟩ = some (.int .i64 0) := by rw [cell_of_row _ _ _ _ _ _ r2]; rfl
  have bf : ∀ j,W.frozen? ⟨w.heap.size + 1,j,none⟩ = false := fun j => frozen_of_row W _ j _ _ r2
  have g0 : W.cell? ⟨w.heap.size + 1 + 1,0,none⟩ = some (.int .u64 ((u - pw : Nat) : Int)) := by rw [cell_of_row _ _ _ _ _ _ r3]; rfl
  have g1 : W.cell? ⟨w.heap.size + 1 + 1,1,none⟩ = some (.int .i64 (b : Int)) := by rw [cell_of_row _ _ _ _ _ _ r3]; rfl
  have HR2 := Lib.hid r2
  have hsl := lt_of_block r2
  clear hW kb r1 r2 r3
  obtain ⟨sz,hsz⟩ : ∃ k,w.heap.size = k := ⟨_,rfl⟩
  rw [hsz] at a0 a1 b0 b1 b2 b3 bf g0 g1 KB HR2 hsl ⊢
  go_wp2_with fail
  generalize hW4 : ({ W with drawn := W.drawn + 1 } : World) = W4
  have d0 : W4.cell? ⟨sz + 1,0,none⟩ = some (.int .u64 0) := by rw [<- hW4]; exact b0
  have d1 : W4.cell? ⟨sz + 1,1,none⟩ = some (.int .i64 0) := by rw [<- hW4]; exact b1
  have d2 : W4.cell? ⟨sz + 1,2,none⟩ = some (.int .u64 0) := by rw [<- hW4]; exact b2
  have d3 : W4.cell? ⟨sz + 1,3,none⟩ = some (.int .i64 0) := by rw [<- hW4]; exact b3
  have d4 : W4.cell? ⟨sz + 1 + 1,0,none⟩ = some (.int .u64 ((u - pw : Nat) : Int)) := by rw [<- hW4]; exact g0
  have d5 : W4.cell? ⟨sz + 1 + 1,1,none⟩ = some (.int .i64 (b : Int)) := by rw [<- hW4]; exact g1
  have df : ∀ j,W4.frozen? ⟨sz + 1,j,none⟩ = false := by rw [<- hW4]; exact bf
  have K4 : Hid (Below sz w W4) := Lib.hid (by rw [<- hW4]; exact KB.out.drew)
  refine wp_region_still_tail 4 (by kernel_rfl) (by kernel_rfl) ?_
  simp only [List.take_succ_cons,List.take_zero,List.drop_succ_cons,List.drop_zero]
  rw [hW4]
  clear hW4
  repeat still_step
  refine wpStill_nil ?_
  go_wp2_with fail
  refine bodyPost_ret (v := .tuple #[.int .i64 (b : Int),.agg #[.int .u64 ((u - pw : Nat) : Int),.int .i64 (b : Int),.int .u64 0,.int .i64 0]]) (by simp [results,Tryz.results124,go_sem, *]) rfl ⟨rfl,?_⟩
  rw [hsz]
  exact st4 K4.out _ _ _ _
 | zet k =>
  obtain ⟨hk1,hk2⟩ : 1 <= k /\ k <= 16 := hc
  obtain ⟨p1,p2⟩ := zet_parts k v hk1
  unfold cdV pcs splV
  dsimp only
  rw [hb,hu] at p1 p2
  rw [hb,hu]
  obtain ⟨h,hh⟩ : ∃ h,b / k = h := ⟨_,rfl⟩
  rw [hh] at p1 p2 ⊢
  have hhk : h * k <= b := by rw [<- hh]; exact Nat.div_mul_le_self b k
  obtain ⟨m,hm⟩ : ∃ m,h * k = m := ⟨_,rfl⟩
  have hm1 : (h + 1) * k = m + k := by rw [Nat.add_mul,hm,Nat.one_mul]
  rw [hm1,hm] at p1 ⊢
  rw [hm] at p2 hhk
  obtain ⟨fr,hfr⟩ : ∃ fr,2 ^ m = fr := ⟨_,rfl⟩
  obtain ⟨tt,htt⟩ : ∃ tt,2 ^ (m + k) = tt := ⟨_,rfl⟩
  have hfk : fr * 2 ^ k = tt := by rw [<- hfr,<- htt,Nat.pow_add]
  have hmk : m + k <= 63 := Nat.add_le_add (Nat.le_trans hhk (Nat.le_of_lt_succ h3)) hk2
  have htt2 : tt <= 9223372036854775808 := htt ▸ pow63 hmk
  have hfr2 : fr <= tt := by rw [<- hfk]; exact Nat.le_mul_of_pos_right _ (Nat.pow_pos (by decide))
  rw [hfr,htt] at p1 ⊢
  rw [hfr] at p2
  have SH := Lib.hid (fun W => short_any (u - fr) (tt - fr) p1 (Nat.le_trans (Nat.sub_le _ _) htt2) W)
  obtain ⟨P,hP⟩ : ∃ P,shP (u - fr) (tt - fr) = P := ⟨_,rfl⟩
  rw [hP] at SH ⊢
  have hm64 : m <= 64 := Nat.le_trans hhk (Nat.le_trans (Nat.le_of_lt h3) (by decide))
  have hkl : k <= 9223372036854775807 := Nat.le_trans hk2 (by decide)
  have hhl : h <= 9223372036854775807 := Nat.le_trans (hh ▸ Nat.div_le_self b k) (Nat.le_trans (Nat.le_of_lt h3) (by decide))
  have f0 := w64_nat k hkl
  have f0' := i64_nat k hkl
  have f1 := quo_nat b k h hh
  have f2 := int_nz k hk1
  have f3 := i64_mul h k m hm hm64
  have f4 : min m 64 = m := Nat.min_eq_left hm64
  have f5 := u64_pow m fr hfr (Nat.le_trans hfr2 htt2)
  have f6 := u64_sub u fr p2 hul
  have f7 : min k 64 = k := Nat.min_eq_left (Nat.le_trans hk2 (by decide))
  have f8 := u64_mul fr k tt hfk htt2
  have f9 := u64_sub tt fr hfr2 htt2
  have f10 := i64_nat h hhl
  have f11 : (0 : Int) <= (m : Int) := Int.natCast_nonneg m
  have f12 : (0 : Int) <= (k : Int) := Int.natCast_nonneg k
  have F5 := Lib.hid f5
  have F6 := Lib.hid f6
  have F8 := Lib.hid f8
  have F9 := Lib.hid f9
  have F3 := Lib.hid f3
  have FF := Lib.hid (And.intro f0 (And.intro f0' (And.intro f1 (And.intro f2 (And.intro f4 (And.intro f7 (And.intro f10 (And.intro f11 f12))))))))
  clear hmk hfr2 hm64 hkl hhl f0 f0' f1 f2 f3 f4 f5 f6 f7 f8 f9 f10 f11 f12
  clear hu hv hb hpw h1 h3 hv63 hb63 hul hv48 p1 p2 hh hhk hm hm1 hfr htt hfk htt2 hP
  go_enter Tryz.func124,Tryz.ntmps124
  go_wp2_with fail
  refine (LN.out _).mono ?_
  rintro e w1 ⟨rfl,rfl⟩
  go_upto_region 4 with fail
  generalize hW : World.alloc (World.alloc (World.alloc w _) _) _ = W
  obtain ⟨r1,r2,r3,kb⟩ := rows3 hW
  have KB := Lib.hid kb
  have a0 : W.cell? ⟨w.heap.size,0,none⟩ = some (.int .u8 3) := by rw [cell_of_row _ _ _ _ _ _ r1]; rfl
  have a1 : W.cell? ⟨w.heap.size,1,none⟩ = some (.int .u64 (k : Int)) := by rw [cell_of_row _ _ _ _ _ _ r1]; rfl
  have b0 : W.cell? ⟨w.heap.size + 1,0,none⟩ = some (.int .u64 0) := by rw [cell_of_row _ _ _ _ _ _ r2]; rfl
  have b1 : W.cell? ⟨w.heap.size + 1,1,none⟩ = some (.int .i64 0) := by rw [cell_of_row _ _ _ _ _ _ r2]; rfl
  have b2 : W.cell? ⟨w.heap.size + 1,2,none⟩ = some (.int .u64 0) := by rw [cell_of_row _ _ _ _ _ _ r2]; rfl
  have b3 : W.cell? ⟨w.heap.size + 1,3,none⟩ = some (.int .i64 0) := by rw [cell_of_row _ _ _ _ _ _ r2]; rfl
  have bf : ∀ j,W.frozen? ⟨w.heap.size + 1,j,none⟩ = false := fun j => frozen_of_row W _ j _ _ r2
  have g0 : W.cell? ⟨w.heap.size + 1 + 1,0,none⟩ = some (.int .u64 ((u - pw : Nat) : Int)) := by rw [cell_of_row _ _ _ _ _ _ r3]; rfl
  have g1 : W.cell? ⟨w.heap.size + 1 + 1,1,none⟩ = some (.int .i64 (b : Int)) := by rw [cell_of_row _ _ _ _ _ _ r3]; rfl
  have HR2 := Lib.hid r2
  have hsl := lt_of_block r2
  clear hW kb r1 r2 r3
  obtain ⟨sz,hsz⟩ : ∃ k,w.heap.size = k := ⟨_,rfl⟩
  rw [hsz] at a0 a1 b0 b1 b2 b3 bf g0 g1 KB HR2 hsl ⊢
  clear e1 e2 e2' e3 e4 hb64
  obtain ⟨f0,f0', f1,f2,f4,f7,f10,f11,f12⟩ := FF.out
  go_upto_region 14 with fail
  go_upto_region 15 with fail
  go_upto_region 16 with fail
  have f3 := F3.out
  have f5 := F5.out
  go_upto_region 17 with fail
  clear f3 f5
  have f6 := F6.out
  have f8 := F8.out
  have f9 := F9.out
  go_wp2_with fail
  refine (SH.out _).mono ?_
  rintro e w2 ⟨rfl,k2⟩
  have r2 := (k2.block _ hsl).trans HR2.out
  have bf2 : ∀ j,w2.frozen? ⟨sz + 1,j,none⟩ = false := fun j => frozen_of_row w2 _ j _ _ r2
  have b20 : w2.cell? ⟨sz + 1,0,none⟩ = some (.int .u64 0) := by rw [cell_of_row _ _ _ _ _ _ r2]; rfl
  have b21 : w2.cell? ⟨sz + 1,1,none⟩ = some (.int .i64 0) := by rw [cell_of_row _ _ _ _ _ _ r2]; rfl
  have b22 : w2.cell? ⟨sz + 1,2,none⟩ = some (.int .u64 0) := by rw [cell_of_row _ _ _ _ _ _ r2]; rfl
  have b23 : w2.cell? ⟨sz + 1,3,none⟩ = some (.int .i64 0) := by rw [cell_of_row _ _ _ _ _ _ r2]; rfl
  have K2 := Lib.hid (KB.out.trans (k2.mono (by rw [<- hsz]; exact KB.out.size)))
  clear k2 r2
  go_wp2_with fail
  refine bodyPost_ret (v := .tuple #[.int .i64 (h : Int),.agg #[.int .u64 (P.1 : Int),.int .i64 (P.2 : Int),.int .u64 0,.int .i64 0]]) (by simp [results,Tryz.results124,go_sem, *]) rfl ⟨rfl,?_⟩
  rw [hsz]
  exact st4 K2.out _ _ _ _
theorem below_drewN {B : Nat} {w w' : World} (h : Below B w w') (n : Nat) : Below B w (w'.drewN n) := ⟨h.os, h.tape, h.output, h.size, h.block⟩
set_option maxRecDepth 100000 in
theorem Take_no (x : Nat → Nat) (c : Nat) (w : World) (rb : Nat) (s : ByteArray) (a n : Nat) (hn : n ≤ 64) (ha : 8 * s.size < a + n) (h : RdC x c w rb s a) :
  Calls Tryz.prog 83 #[.pointer (some ⟨rb,0,none⟩),.int .i64 (n : Int)] w fun e w' => e = .returned (.tuple #[.int .u64 0,.int .i64 4]) /\ Below w.heap.size w w' := by
 obtain ⟨h0,hx,hb,hs⟩ := h
 have hrl := lt_of_block h0
 have W1 : Hid (RdC (paint x w.heap.size c) c (w.alloc (.cells #[.pointer (some ⟨rb,0,none⟩)] 23)) rb s a) := Lib.hid ⟨(Below.heap_alloc _ _ _ hrl).trans h0,by rw [paint_old hrl]; exact hx,hb,hs⟩
 clear h0
 have i1 : decide ((n : Int) < 0) = false := decide_eq_false (by omega)
 have i2 : decide ((64 : Int) < (n : Int)) = false := decide_eq_false (by omega)
 have i3 : decide (8 * s.size - a < n) = true := decide_eq_true (by omega)
 have i4 : decide (((8 * s.size - a : Nat) : Int) < (n : Int)) = true := decide_eq_true (by omega)
 go_enter Tryz.func83,Tryz.ntmps83
 go_wp2_with fail
 refine (left_any _ c _ rb s a W1.out).mono ?_
 rintro e w1 ⟨rfl,m1,rfl⟩
 go_wp2_with fail
 go_ret2
 exact ⟨rfl,below_drewN ((Below.refl _ _).alloc (Nat.le_refl _) _) m1⟩

def RQ (x : Nat → Nat) (d t : Nat) (w : World) (rb qb : Nat) (s : ByteArray) (a : Nat) (bad : Bool) (ks : List (Nat × Obj)) (W : World) : Prop :=
 ∃ x', Fr x x' (fun e => e = d \/ e = t) w W /\ RdC x' d W rb s a /\ (x' qb = t /\ W.heap[qb]? = some (.cells #[.pointer (some ⟨rb,0,none⟩),.bool bad] 142 (0,0))) /\ ∀ p ∈ ks,x' p.1 = t /\ p.1 ≠ qb /\ W.heap[p.1]? = some p.2
theorem RQ.row {x : Nat → Nat} {d t : Nat} {w W : World} {rb qb a : Nat} {s : ByteArray} {bad : Bool} {ks : List (Nat × Obj)} (h : RQ x d t w rb qb s a bad ks W) {b : Nat} {o : Obj} (hm : (b, o) ∈ ks) : W.heap[b]? = some o := by
 obtain ⟨x', _,_,_,hk⟩ := h
 exact (hk _ hm).2.2
theorem RQ.le {x : Nat → Nat} {d t : Nat} {w W : World} {rb qb a : Nat} {s : ByteArray} {bad : Bool} {ks : List (Nat × Obj)} (h : RQ x d t w rb qb s a bad ks W) : a ≤ 8 * s.size := by
 obtain ⟨x', _,hr,_⟩ := h
 exact hr.2.2.1
theorem RQ.q {x : Nat → Nat} {d t : Nat} {w W : World} {rb qb a : Nat} {s : ByteArray} {bad : Bool} {ks : List (Nat × Obj)} (h : RQ x d t w rb qb s a bad ks W) : W.heap[qb]? = some (.cells #[.pointer (some ⟨rb, 0, none⟩), .bool bad] 142 (0, 0)) := by
 obtain ⟨x', _,_,hq,_⟩ := h
 exact hq.2
theorem RQ.next {x : Nat → Nat} {d t : Nat} {w W W' : World} {rb qb a : Nat} {s : ByteArray} {bad : Bool} {ks : List (Nat × Obj)} (h : RQ x d t w rb qb s a bad ks W) (k : Below W.heap.size W W') : RQ x d t w rb qb s a bad ks W' := by
 obtain ⟨x', hf,⟨hr1,hr2,hr3⟩,⟨hq1,hq2⟩,hk⟩ := h
 have f2 : Fr x' (paint x' W.heap.size t) (fun e => e = t) W W' := Fr.of_below k rfl
 refine ⟨_,hf.trans (f2.mono (fun c hc => .inr hc)),⟨(k.block _ (lt_of_block hr1)).trans hr1,(paint_old (lt_of_block hr1)).trans hr2,hr3⟩,⟨(paint_old (lt_of_block hq2)).trans hq1,(k.block _ (lt_of_block hq2)).trans hq2⟩,fun p hp => ?_⟩
 obtain ⟨h1,h2,h3⟩ := hk p hp
 exact ⟨(paint_old (lt_of_block h3)).trans h1,h2,(k.block _ (lt_of_block h3)).trans h3⟩
theorem RQ.keep {x : Nat → Nat} {d t : Nat} {w W : World} {rb qb a : Nat} {s : ByteArray} {bad : Bool} {ks : List (Nat × Obj)} (h : RQ x d t w rb qb s a bad ks W) (row : Array Value) (T : TypeId) : RQ x d t w rb qb s a bad ((W.heap.size, .cells row T (0, 0)) :: ks) (W.alloc (.cells row T)) := by
 have hq := lt_of_block h.q
 obtain ⟨x', hf,⟨hr1,hr2,hr3⟩,⟨hq1,hq2⟩,hk⟩ := h
 have k : Below W.heap.size W (W.alloc (.cells row T)) := (Below.refl _ _).alloc (Nat.le_refl _) _
 have f2 : Fr x' (paint x' W.heap.size t) (fun e => e = t) W (W.alloc (.cells row T)) := Fr.of_below k rfl
 refine ⟨_,hf.trans (f2.mono (fun c hc => .inr hc)),⟨(k.block _ (lt_of_block hr1)).trans hr1,(paint_old (lt_of_block hr1)).trans hr2,hr3⟩,⟨(paint_old (lt_of_block hq2)).trans hq1,(k.block _ (lt_of_block hq2)).trans hq2⟩,fun p hp => ?_⟩
 rcases List.mem_cons.1 hp with rfl | hp
 ·exact ⟨paint_new (Nat.le_refl _),fun e => by simp only at e; omega,heap_alloc_new W _⟩
 ·obtain ⟨h1,h2,h3⟩ := hk p hp
  exact ⟨(paint_old (lt_of_block h3)).trans h1,h2,(k.block _ (lt_of_block h3)).trans h3⟩
theorem RQ.less {x : Nat → Nat} {d t : Nat} {w W : World} {rb qb a : Nat} {s : ByteArray} {bad : Bool} {p : Nat × Obj} {ks : List (Nat × Obj)} (h : RQ x d t w rb qb s a bad (p :: ks) W) : RQ x d t w rb qb s a bad ks W := by
 obtain ⟨x', hf,hr,hq,hk⟩ := h
 exact ⟨x', hf,hr,hq,fun q hq => hk q (List.mem_cons_of_mem _ hq)⟩
theorem RQ.mark {x : Nat → Nat} {d t : Nat} {w W : World} {rb qb a : Nat} {s : ByteArray} {bad : Bool} {ks : List (Nat × Obj)} (h : RQ x d t w rb qb s a bad ks W) (hdt : d ≠ t) (bad' : Bool) : RQ x d t w rb qb s a bad' ks (W.setCell ⟨qb, 1, none⟩ (.bool bad')) := by
 obtain ⟨x', hf,⟨hr1,hr2,hr3⟩,⟨hq1,hq2⟩,hk⟩ := h
 have ne : ∀ b,b ≠ qb -> (W.setCell ⟨qb,1,none⟩ (.bool bad')).heap[b]? = W.heap[b]? := fun b hb' => Below.heap_setCell W ⟨qb,1,none⟩ _ b hb'
 have f2 : Fr x' x' (fun c => c = t) W (W.setCell ⟨qb,1,none⟩ (.bool bad')) := Fr.same rfl rfl rfl (by simp) (fun b _ hd => ne b (fun e => hd (by rw [e]; exact hq1)))
 refine ⟨x', hf.trans (f2.mono (fun c hc => .inr hc)),⟨(ne _ (fun e => by rw [e] at hr2; exact hdt (hr2.symm.trans hq1))).trans hr1,hr2,hr3⟩,⟨hq1,?_⟩,fun p hp => ?_⟩
 ·rw [heap_setCell_same W qb 1 _ _ _ hq2]; rfl
 ·obtain ⟨h1,h2,h3⟩ := hk p hp
  exact ⟨h1,h2,(ne _ h2).trans h3⟩
theorem RQ.bits {x : Nat → Nat} {d t : Nat} {w W : World} {rb qb a : Nat} {s : ByteArray} {bad : Bool} {ks : List (Nat × Obj)} (h : RQ x d t w rb qb s a bad ks W) (hdt : d ≠ t) (n : Nat) (hn : n ≤ 64) (ha : a + n ≤ 8 * s.size) :
  Calls Tryz.prog 83 #[.pointer (some ⟨rb,0,none⟩),.int .i64 (n : Int)] W fun e w' =>
   e = .returned (.tuple #[.int .u64 ((num (((unpack (nats s)).drop a).take n) : Nat) : Int),.int .i64 0]) /\ RQ x d t w rb qb s (a + n) bad ks w' := by
 obtain ⟨x', hf,hr,⟨hq1,hq2⟩,hk⟩ := h
 refine (Take_any x' d W rb s a n hn ha hr).mono ?_
 rintro e w' ⟨rfl,x2,f2,h2⟩
 have nd : ∀ b,x' b = t -> ¬ x' b = d := fun b hb e => hdt (e.symm.trans hb)
 refine ⟨rfl,x2,hf.trans (f2.mono (fun c hc => .inl hc)),h2,⟨(f2.col _ (lt_of_block hq2)).trans hq1,(f2.old _ (lt_of_block hq2) (nd _ hq1)).trans hq2⟩,fun p hp => ?_⟩
 obtain ⟨h1,h3,h4⟩ := hk p hp
 exact ⟨(f2.col _ (lt_of_block h4)).trans h1,h3,(f2.old _ (lt_of_block h4) (nd _ h1)).trans h4⟩
theorem RQ.nobits {x : Nat → Nat} {d t : Nat} {w W : World} {rb qb a : Nat} {s : ByteArray} {bad : Bool} {ks : List (Nat × Obj)} (h : RQ x d t w rb qb s a bad ks W) (n : Nat) (hn : n ≤ 64) (ha : 8 * s.size < a + n) :
  Calls Tryz.prog 83 #[.pointer (some ⟨rb,0,none⟩),.int .i64 (n : Int)] W fun e w' => e = .returned (.tuple #[.int .u64 0,.int .i64 4]) /\ RQ x d t w rb qb s a bad ks w' := by
 obtain ⟨x', _,hr,_⟩ := id h
 refine (Take_no x' d W rb s a n hn ha hr).mono ?_
 rintro e w' ⟨rfl,k⟩
 exact ⟨rfl,h.next k⟩

def tkP (s : ByteArray) (a n : Nat) : Nat × Nat := if a + n ≤ 8 * s.size then (num (((unpack (nats s)).drop a).take n), a + n) else (0, a)
set_option maxRecDepth 100000 in
set_option maxHeartbeats 1600000 in
theorem qtake_any (x : Nat → Nat) (d t : Nat) (hdt : d ≠ t) (w : World) (rb qb : Nat) (s : ByteArray) (a n : Nat) (hn : n ≤ 64) (bad : Bool) (ks : List (Nat × Obj)) (W : World) (h : RQ x d t w rb qb s a bad ks W) :
  Calls Tryz.prog 102 #[.pointer (some ⟨qb,0,none⟩),.int .i64 (n : Int)] W fun e w' =>
   e = .returned (.int .u64 ((tkP s a n).1 : Int)) /\ RQ x d t w rb qb s (tkP s a n).2 (bad || decide (8 * s.size < a + n)) ks w' := by
 have q0 := h.q
 have c0 : W.cell? ⟨qb,0,none⟩ = some (.pointer (some ⟨rb,0,none⟩)) := by rw [cell_of_row _ _ _ _ _ _ q0]; rfl
 clear q0
 by_cases ha : a + n <= 8 * s.size
 ·have BI := Lib.hid (h.bits hdt n hn ha)
  have e1 : tkP s a n = (num (((unpack (nats s)).drop a).take n),a + n) := by unfold tkP; rw [if_pos ha]
  rw [e1,decide_eq_false (by omega),Bool.or_false]
  dsimp only
  generalize num (((unpack (nats s)).drop a).take n) = v at BI ⊢
  clear h e1 ha
  go_enter Tryz.func102,Tryz.ntmps102
  go_wp2_with fail
  refine BI.out.mono ?_
  rintro e w1 ⟨rfl,h1⟩
  have H1 := Lib.hid (h1.mark hdt bad)
  have q1 := h1.q
  have c1 : w1.cell? ⟨qb,1,none⟩ = some (.bool bad) := by rw [cell_of_row _ _ _ _ _ _ q1]; rfl
  have f1 : ∀ j,w1.frozen? ⟨qb,j,none⟩ = false := fun j => frozen_of_row w1 qb j _ _ q1
  clear h1 q1
  cases bad
  ·go_wp2_with fail
   go_ret
   exact ⟨rfl,H1.out⟩
  ·go_wp2_with fail
   go_ret
   exact ⟨rfl,H1.out⟩
 ·have BI := Lib.hid (h.nobits n hn (by omega))
  have e1 : tkP s a n = (0,a) := by unfold tkP; rw [if_neg ha]
  rw [e1,decide_eq_true (by omega),Bool.or_true]
  dsimp only
  clear h e1 ha
  go_enter Tryz.func102,Tryz.ntmps102
  go_wp2_with fail
  refine BI.out.mono ?_
  rintro e w1 ⟨rfl,h1⟩
  have H1 := Lib.hid (h1.mark hdt true)
  have q1 := h1.q
  have c1 : w1.cell? ⟨qb,1,none⟩ = some (.bool bad) := by rw [cell_of_row _ _ _ _ _ _ q1]; rfl
  have f1 : ∀ j,w1.frozen? ⟨qb,j,none⟩ = false := fun j => frozen_of_row w1 qb j _ _ q1
  clear h1 q1
  cases bad
  ·go_wp2_with fail
   go_ret
   exact ⟨rfl,H1.out⟩
  ·go_wp2_with fail
   go_ret
   exact ⟨rfl,H1.out⟩

theorem bits_len (s : ByteArray) : (unpack (nats s)).length = 8 * s.size := by rw [unpack_length, nats_length]
theorem zer_step (f : Nat) (B : Bits) (a : Nat) : zer (f + 1) (B.drop a) = if B.length < a + 1 then none else if num ((B.drop a).take 1) = 1 then some 0 else (zer f (B.drop (a + 1))).map (· + 1) := by
 by_cases h : a < B.length
 ·rw [if_neg (by omega),List.drop_eq_getElem_cons h,zer]
  cases B[a] <;> simp [num]
 ·rw [if_pos (by omega),List.drop_eq_nil_of_le (by omega),zer]
def zerP (a : Nat) (o : Option Nat) (v a' : Nat) (bad : Bool) : Prop :=
 match o with
 | some n => v = n /\ a' = a + n + 1 /\ bad = false
 | none => v = 0 /\ bad = true
set_option maxRecDepth 100000 in
set_option maxHeartbeats 1600000 in
theorem zeros_any (x : Nat → Nat) (d t : Nat) (hdt : d ≠ t) (w : World) (rb qb : Nat) (s : ByteArray) (a most : Nat) (hm : most ≤ 65535) (ks : List (Nat × Obj)) (W : World) (h : RQ x d t w rb qb s a false ks W) :
  Calls Tryz.prog 100 #[.pointer (some ⟨qb,0,none⟩),.int .i64 (most : Int)] W fun e w' =>
   ∃ v a' : Nat,∃ bad : Bool,e = .returned (.int .i64 (v : Int)) /\ zerP a (zer (most + 1) ((unpack (nats s)).drop a)) v a' bad /\ RQ x d t w rb qb s a' bad ks w' := by
 have H := Lib.hid h
 obtain ⟨o,ho⟩ : ∃ o,zer (most + 1) ((unpack (nats s)).drop a) = o := ⟨_,rfl⟩
 have HO := Lib.hid ho
 rw [ho]
 clear h ho
 go_enter Tryz.func100,Tryz.ntmps100
 go_wp2_with fail
 go_loopw [5] (fun vi wr => ∃ i a2 : Nat,∃ bad,vi = .int .i64 (i : Int) /\ i <= most + 1 /\ RQ x d t w rb qb s a2 bad ks wr /\ ((bad = false /\ a2 = a + i /\ o = (zer (most + 1 - i) ((unpack (nats s)).drop (a + i))).map (· + i)) \/ (bad = true /\ o = none))) (fun vi _ => most + 2 - (intOf vi).toNat)
 case atStart => exact ⟨0,a,false,rfl,Nat.zero_le _,H.out,.inl ⟨rfl,rfl,by rw [<- HO.out]; simp⟩⟩
 case round =>
  obtain ⟨i,a2,bad,rfl,hi,hR,hc⟩ := hrel
  have q1 := hR.q
  have c1 : wr.cell? ⟨qb,1,none⟩ = some (.bool bad) := by rw [cell_of_row _ _ _ _ _ _ q1]; rfl
  have f1 : ∀ j,wr.frozen? ⟨qb,j,none⟩ = false := fun j => frozen_of_row wr qb j _ _ q1
  clear q1
  by_cases hlt : i <= most
  ·have hle : (i : Int) <= (most : Int) := by omega
   have hd : decide ((i : Int) <= (most : Int)) = true := decide_eq_true hle
   cases bad
   ·obtain ⟨-,ha2,ho⟩ := hc.resolve_right (fun h => by cases h.1)
    subst ha2
    have TK := Lib.hid (qtake_any x d t hdt w rb qb s (a + i) 1 (by decide) false ks wr hR)
    have ZS := Lib.hid (zer_step (most - i) (unpack (nats s)) (a + i))
    rw [bits_len,show most - i + 1 = most + 1 - i by omega] at ZS
    rw [ZS.out] at ho
    have HOO := Lib.hid ho
    clear ho hc hR
    have w1 : IntKind.i64.wrap ((i : Int) + 1) = ((i + 1 : Nat) : Int) := by rw [IntWalk.i64_in _ (by omega)]; omega
    obtain ⟨tv,ta,htk⟩ : ∃ tv ta,tkP s (a + i) 1 = (tv,ta) := ⟨_,_,rfl⟩
    have htk2 := htk
    rw [htk] at TK
    dsimp only at TK
    unfold tkP at htk2
    by_cases hl : a + i + 1 <= 8 * s.size
    ·rw [if_pos hl] at htk2
     obtain ⟨rfl,rfl⟩ := Prod.mk.inj htk2
     rw [decide_eq_false (by omega)] at TK
     rw [if_neg (by omega)] at HOO
     obtain ⟨tb,htb⟩ : ∃ b,num (((unpack (nats s)).drop (a + i)).take 1) = b := ⟨_,rfl⟩
     rw [htb] at TK HOO
     clear htk htk2 htb hl
     by_cases h1 : tb = 1
     ·subst h1
      have OO := HOO.out
      rw [if_pos rfl] at OO
      have OO2 := Lib.hid OO
      clear HOO OO
      go_wp2_with fail
      refine TK.out.mono ?_
      rintro e w2 ⟨rfl,h2⟩
      have H2 := Lib.hid h2
      clear h2
      go_wp2_with fail
      go_ret
      refine ⟨i,a + i + 1,false,rfl,?_,H2.out⟩
      rw [OO2.out]
      show _ = 0 + i /\ a + i + 1 = a + (0 + i) + 1 /\ _
      exact ⟨by omega,by omega,rfl⟩
     ·have OO := HOO.out
      rw [if_neg h1] at OO
      have OO2 := Lib.hid OO
      have hb1 : ((tb : Int) == 1) = false := beq_eq_false_iff_ne.2 (by omega)
      clear HOO OO
      go_wp2_with fail
      refine TK.out.mono ?_
      rintro e w2 ⟨rfl,h2⟩
      have H2 := Lib.hid h2
      clear h2
      go_wp2_with fail
      go_roundw
      case rel =>
       refine ⟨i + 1,a + i + 1,false,by go_num,by omega,H2.out,.inl ⟨rfl,by omega,?_⟩⟩
       rw [OO2.out,Option.map_map,show most - i = most + 1 - (i + 1) by omega,Nat.add_assoc]
       congr 1
       funext k
       show k + 1 + i = k + (i + 1)
       omega
      case measure => simp [intOf]; omega
    ·rw [if_neg hl] at htk2
     obtain ⟨rfl,rfl⟩ := Prod.mk.inj htk2
     rw [decide_eq_true (by omega)] at TK
     have OO := HOO.out
     rw [if_pos (by omega)] at OO
     have OO2 := Lib.hid OO
     have hb1 : ((0 : Int) == 1) = false := rfl
     clear HOO OO htk htk2 hl
     go_wp2_with fail
     refine TK.out.mono ?_
     rintro e w2 ⟨rfl,h2⟩
     have H2 := Lib.hid h2
     clear h2
     go_wp2_with fail
     go_roundw
     case rel => exact ⟨i + 1,a + i,true,by go_num,by omega,H2.out,.inr ⟨rfl,OO2.out⟩⟩
     case measure => simp [intOf]; omega
   ·obtain ⟨-,ho⟩ := hc.resolve_left (fun h => by cases h.1)
    have HR := Lib.hid (hR.mark hdt true)
    clear hR hc
    go_wp2_with fail
    go_ret
    exact ⟨0,a2,true,rfl,by rw [ho]; exact ⟨rfl,rfl⟩,HR.out⟩
  ·have hle : ¬ (i : Int) <= (most : Int) := by omega
   have hd : decide ((i : Int) <= (most : Int)) = false := decide_eq_false hle
   have ho : o = none := by
    rcases hc with ⟨_,_,h⟩ | ⟨_,h⟩
    ·rw [h,show most + 1 - i = 0 by omega]; rfl
    ·exact h
   have HR := Lib.hid (hR.mark hdt true)
   clear hR hc
   go_wp2_with fail
   go_ret
   exact ⟨0,rfl,a2,.inr ⟨⟨rfl,rfl⟩,HR.out⟩⟩
end Go.Proofs.YtflnpcgnenhogaaGreatDoor.ls
