/- Own lemmas, laid together. -/
import Derived.Test.YtflnpcgnenhogaaGreatDoorDk29
import Derived.Test.YtflnpcgnenhogaaGreatDoorDk22
import Derived.Test.YtflnpcgnenhogaaGreatDoorDk25
import Derived.Test.YtflnpcgnenhogaaGreatDoorDk27
import Derived.Test.YtflnpcgnenhogaaGreatDoorDk28
import Derived.Test.YtflnpcgnenhogaaGreatDoorDk21
import Derived.Deep.RegionLaw
import Derived.Deep.RegionHeld3
namespace Go.Proofs.YtflnpcgnenhogaaGreatDoor.ls
open Go.RowKit Go.Proofs.YtflnpcgnenhogaaGreatDoor.own Go.Proofs.YtflnpcgnenhogaaGreatDoor.bit

/-- a packer in memory, its writer, its lists, rows beside -/
def KS (w : World) (b : Bp) (T : List Tk) (wb E D : Nat) (l : Bits) (rd : Option (Nat × ByteArray × Nat)) (kb : Nat) (ls ks : List (Nat × Obj)) (W : World) : Prop :=
 ∃ row, FS w (some (wb, l)) rd ((kb, .cells row 129 (0, 0)) :: (ls ++ ks)) W ∧ (∀ p ∈ ls ++ ks, p.1 ≠ kb) ∧ PackRow b T wb E D row ls
end Go.Proofs.YtflnpcgnenhogaaGreatDoor.ls
namespace Go.Proofs.YtflnpcgnenhogaaGreatDoor.ls
open Go.RowKit Go.Proofs.YtflnpcgnenhogaaGreatDoor.own Go.Proofs.YtflnpcgnenhogaaGreatDoor.bit

/-- a row of the call's own, and blocks beside it that stand still -/
def LG (T : TypeId) (sz : Nat) (w0 : World) (ks : List (Nat × Obj)) (n : Nat) (xs : List Value) (v : Value) (W : World) : Prop :=
 Below w0.heap.size w0 W ∧ W.ownsRow w0.heap.size T sz v n xs ∧ ∀ p ∈ ks, W.heap[p.1]? = some p.2 ∧ some p.1 ≠ v.ownBlock
section
variable {T : TypeId} {sz : Nat} {w0 W : World} {ks : List (Nat × Obj)} {n : Nat} {xs : List Value} {v : Value}
theorem LG.next (h : LG T sz w0 ks n xs v W) {W' : World} (k : Below W.heap.size W W') : LG T sz w0 ks n xs v W' :=
 ⟨h.1.trans (k.mono h.1.size), own_below h.2.1 k, fun p hp => ⟨(k.block _ (lt_of_block (h.2.2 p hp).1)).trans (h.2.2 p hp).1, (h.2.2 p hp).2⟩⟩
theorem LG.drew (h : LG T sz w0 ks n xs v W) : LG T sz w0 ks n xs v W.drew := h.next (Below.drew (Below.refl _ _))
theorem LG.row (h : LG T sz w0 ks n xs v W) {b : Nat} {o : Obj} (hm : (b, o) ∈ ks) : W.heap[b]? = some o := (h.2.2 _ hm).1
theorem LG.sub (h : LG T sz w0 ks n xs v W) {ks' : List (Nat × Obj)} (hs : ∀ p ∈ ks', p ∈ ks) : LG T sz w0 ks' n xs v W := ⟨h.1, h.2.1, fun p hp => h.2.2 p (hs p hp)⟩
theorem LG.keep (h : LG T sz w0 ks n xs v W) (row : Array Value) (U : TypeId) : LG T sz w0 ((W.heap.size, .cells row U (0, 0)) :: ks) n xs v (W.alloc (.cells row U)) := by
 have k : Below W.heap.size W (W.alloc (.cells row U)) := (Below.refl _ _).alloc (Nat.le_refl _) _
 obtain ⟨h1, h2, h3⟩ := h.next k
 refine ⟨h1, h2, fun p hp => ?_⟩
 rcases List.mem_cons.1 hp with rfl | hp
 ·exact ⟨heap_alloc_new W _, fun e => by have := (h.2.1.lt _ e.symm).2; exact absurd this (Nat.lt_irrefl _)⟩
 ·exact h3 p hp
/-- a block that stands there beside -/
theorem LG.with (h : LG T sz w0 ks n xs v W) {b : Nat} {o : Obj} (hb : W.heap[b]? = some o) (hne : some b ≠ v.ownBlock) : LG T sz w0 ((b, o) :: ks) n xs v W := by
 refine ⟨h.1, h.2.1, fun p hp => ?_⟩
 rcases List.mem_cons.1 hp with rfl | hp
 ·exact ⟨hb, hne⟩
 ·exact h.2.2 p hp
theorem LG.grow (h : LG T sz w0 ks n xs v W) {W2 : World} {v' : Value} {n' : Nat} {xs' : List Value} (own : W2.ownsRow w0.heap.size T sz v' n' xs') (hg : W.grownBy W2 v.ownBlock) (hw : v'.ownBlock = v.ownBlock ∨ v'.ownBlock = some W.heap.size) : LG T sz w0 ks n' xs' v' W2 := by
 obtain ⟨h1, h2, h3⟩ := h
 refine ⟨h1.grown hg h1.size (fun k hk => (h2.lt k hk).1), own, fun p hp => ?_⟩
 obtain ⟨h4, h5⟩ := h3 p hp
 refine ⟨(hg.block _ (lt_of_block h4) h5).trans h4, fun e => ?_⟩
 rcases hw with h | h
 ·exact h5 (e.trans h)
 ·rw [h] at e
  injection e with e
  have := lt_of_block h4
  omega
end
/-- the bits so far -/
def LO (w0 : World) (ks : List (Nat × Obj)) (out : Bits) (v : Value) (W : World) : Prop := LG 4 1 w0 ks out.length (bls out) v W
theorem LO.grow {w0 W : World} {ks : List (Nat × Obj)} {out : Bits} {v : Value} (h : LO w0 ks out v W) {W2 : World} {v' : Value} (bs : Bits) (m : Nat) (hm : bs.length = m) (own : W2.ownsRow w0.heap.size 4 1 v' (out.length + m) (bls out ++ bls bs)) (hg : W.grownBy W2 v.ownBlock) (hw : v'.ownBlock = v.ownBlock ∨ v'.ownBlock = some W.heap.size) : LO w0 ks (out ++ bs) v' W2 := by
 refine LG.grow h ?_ hg hw
 rw [List.length_append, hm, ← bls_append]
 exact own

/-! ### Zig, zig, Bits, gamma -/
set_option maxRecDepth 100000 in
theorem dZig_any (z : Int) (h1 : -1000000 ≤ z) (h2 : z ≤ 1000000) (w : World) : Calls Tryz.prog 118 #[.int .i64 z] w fun e w' => e = .returned (.int .u64 ((zig z : Nat) : Int)) ∧ w = w' := by
 obtain ⟨k, hk⟩ : ∃ k, zig z = k := ⟨_, rfl⟩
 rw [hk]
 by_cases h0 : 0 ≤ z
 ·obtain ⟨n, rfl⟩ : ∃ n : Nat, z = (n : Int) := ⟨z.toNat, by omega⟩
  have e : 2 * (n : Int) = (k : Int) := by unfold zig at hk; rw [if_pos h0] at hk; omega
  have i1 : decide ((0 : Int) ≤ (n : Int)) = true := decide_eq_true h0
  clear hk h0 h1
  go_enter Tryz.func118, Tryz.ntmps118
  go_wp2_with fail
  go_ret
  exact ⟨rfl, rfl⟩
 ·obtain ⟨n, hn⟩ : ∃ n : Nat, -(z + 1) = (n : Int) := ⟨(-(z + 1)).toNat, by omega⟩
  have e : 2 * (n : Int) + 1 = (k : Int) := by unfold zig at hk; rw [if_neg h0] at hk; omega
  have i1 : decide ((0 : Int) ≤ z) = false := decide_eq_false h0
  have n9 : n ≤ 1000000 := by omega
  clear hk
  go_enter Tryz.func118, Tryz.ntmps118
  go_wp2_with fail
  go_ret
  exact ⟨rfl, rfl⟩
set_option maxRecDepth 100000 in
theorem dzig_any (v x : Nat) (hv : v < 65536) (hx : x < 65536) (w : World) : Calls Tryz.prog 94 #[.int .u32 (v : Int), .int .i64 (x : Int)] w fun e w' => e = .returned (.int .i64 ((zig ((v : Int) - x) : Nat) : Int)) ∧ w = w' := by
 have ZG := Lib.hid (fun W => dZig_any ((v : Int) - (x : Int)) (by omega) (by omega) W)
 have hz := zig_lt2 (v := v) (x := x) hv hx
 obtain ⟨k, hk⟩ : ∃ k, zig ((v : Int) - x) = k := ⟨_, rfl⟩
 rw [hk] at ZG hz ⊢
 clear hk
 go_enter Tryz.func94, Tryz.ntmps94
 go_wp2_with fail
 with_reducible refine (ZG.out _).mono ?_
 rintro e w2 ⟨rfl, rfl⟩
 go_wp2_with fail
 go_ret
 exact ⟨rfl, rfl⟩
/-- two rows of a call's own, the second laid behind the first -/
theorem below_app {w W W3 : World} {vu v3 : Value} {A B : Bits} {a b : Nat} (kk : Below w.heap.size w W) (pu : W.ownsRow w.heap.size 4 1 vu a (bls A)) (own3 : W3.ownsRow w.heap.size 4 1 v3 (a + b) (bls A ++ bls B)) (hg3 : W.grownBy W3 vu.ownBlock) (hl : (A ++ B).length = a + b) : RowPost (A ++ B) w (.returned v3) W3 :=
 ⟨v3, rfl, by rw [hl, ← bls_append]; exact own3, kk.grown hg3 kk.size (fun k hk => (pu.lt k hk).1)⟩
set_option maxRecDepth 100000 in
set_option maxHeartbeats 3200000 in
theorem dbits_gam (v : Nat) (hv : v ≤ 1000000) (w : World) : Calls Tryz.prog 90 #[.agg #[.int .u8 1, .int .u64 0], .int .u64 (v : Int)] w (RowPost (cb .gam v) w) := by
 obtain ⟨i0, hi, hz0, hz1, hz2⟩ := info_parts Tryz.infoBool
 have LOW := Lib.hid (fun W => low_any (v + 1) (by omega) (by omega) W)
 have hlog : Nat.log2 (v + 1) < 20 := log_lt (by rw [show (2 : Nat) ^ 20 = 1048576 from rfl]; omega)
 have h1 := Nat.log2_self_le (n := v + 1) (by omega)
 have HC : Hid (cb .gam v = un (Nat.log2 (v + 1)) ++ ofN (Nat.log2 (v + 1)) (v + 1 - 2 ^ Nat.log2 (v + 1))) := Lib.hid (cb_gam v)
 obtain ⟨b, hb⟩ : ∃ b, Nat.log2 (v + 1) = b := ⟨_, rfl⟩
 obtain ⟨n, hn⟩ : ∃ n, v + 1 = n := ⟨_, rfl⟩
 rw [hb, hn] at HC
 rw [hn] at LOW h1
 rw [hn] at hb
 rw [hb] at LOW h1
 obtain ⟨q, hq⟩ : ∃ q, 2 ^ b = q := ⟨_, rfl⟩
 rw [hq] at HC h1
 have hb20 : b < 20 := by rw [← hb, ← hn]; exact hlog
 have hnI : (v : Int) + 1 = (n : Int) := by omega
 obtain ⟨d, hd⟩ : ∃ d, n - q = d := ⟨_, rfl⟩
 rw [hd] at HC
 have e3 := u64_pow b q hq (by omega)
 have e4 := u64_sub n q h1 (by omega)
 rw [hd] at e4
 have d9 : d ≤ 1000001 := by omega
 have UN := Lib.hid (fun W => unary_any b (by omega) W)
 have OF := Lib.hid (fun W => Of_any b d (by omega) (by omega) W)
 have wbb : IntKind.u64.wrap (b : Int) = (b : Int) := IntWalk.u64_in _ (by omega)
 clear hlog hb hn hq hd h1
 go_enter Tryz.func90, Tryz.ntmps90
 go_wp2_with fail
 with_reducible refine (LOW.out _).mono ?_
 rintro e w2 ⟨rfl, rfl⟩
 go_upto_region 7 with fail
 have kk : Below w.heap.size w (w.alloc (.cells #[.int .u8 1, .int .u64 0] 104)) := (Below.refl _ _).alloc (Nat.le_refl _) _
 generalize World.alloc w _ = W1 at kk ⊢
 have kk := Below.drew kk
 go_region_law (first
   | (go_simp; go_at_call 115; (try rw [wbb]); (with_reducible refine (UN.out _).mono ?_); rintro e w2 ⟨v2, rfl, o2, k2⟩; have pu := own_base o2 kk.size; (try have po := own_below po k2); have kk := kk.trans (k2.mono kk.size); clear o2 k2; rw [un_length] at pu; dsimp only)
   | (go_simp; go_at_call 116; (try rw [wbb]); (with_reducible refine (OF.out _).mono ?_); rintro e w2 ⟨v2, rfl, o2, k2⟩; have po := own_base o2 kk.size; (try have pu := own_below pu k2); have kk := kk.trans (k2.mono kk.size); clear o2 k2; rw [ofN_length] at po; dsimp only)
   | (refine wp_append_row _ (by rfl) (.tmp 24) (.tmp 30) 26 rfl w.heap.size w.heap.size 4 i0 (.bool false) 1 Tryz.underlying26 hi hz0 hz1 hz2 rfl _ _ _ rfl pu _ _ _ rfl po (bls_one _) (by simp only [maxLen]; omega) (by omega) kk.size ?_; intro v3 w3 own3 hg3 hw3; have U3 := Lib.hid (below_app kk pu own3 hg3 (by rw [List.length_append, un_length, ofN_length])); obtain ⟨a3, cap3, rfl⟩ := own_shape own3; clear own3 hg3 hw3))
 all_goals
  go_wp2_with fail
  go_ret
  rw [HC.out]
  exact U3.out
set_option maxRecDepth 100000 in
theorem dbits_una (v : Nat) (hv : v ≤ 65535) (w : World) : Calls Tryz.prog 90 #[.agg #[.int .u8 0, .int .u64 0], .int .u64 (v : Int)] w (RowPost (cb .una v) w) := by
 have LOW := Lib.hid (fun W => low_any (v + 1) (by omega) (by omega) W)
 have hlog : Nat.log2 (v + 1) < 20 := log_lt (by rw [show (2 : Nat) ^ 20 = 1048576 from rfl]; omega)
 obtain ⟨b, hb⟩ : ∃ b, Nat.log2 (v + 1) = b := ⟨_, rfl⟩
 obtain ⟨n, hn⟩ : ∃ n, v + 1 = n := ⟨_, rfl⟩
 rw [hn] at LOW hb hlog
 rw [hb] at LOW hlog
 have hnI : (v : Int) + 1 = (n : Int) := by omega
 have UN := Lib.hid (fun W => unary_any v hv W)
 rw [cb_una]
 clear hb hn
 go_enter Tryz.func90, Tryz.ntmps90
 go_wp2_with fail
 with_reducible refine (LOW.out _).mono ?_
 rintro e w2 ⟨rfl, rfl⟩
 go_wp2_with fail
 with_reducible refine (UN.out _).mono ?_
 rintro e w2 ⟨v2, rfl, o2, k2⟩
 have kk : Below w.heap.size w (w.alloc (.cells #[.int .u8 0, .int .u64 0] 104)) := (Below.refl _ _).alloc (Nat.le_refl _) _
 have pu := own_base o2 kk.size
 have kk := kk.trans (k2.mono kk.size)
 clear o2 k2
 go_wp2_with fail
 go_ret
 exact ⟨_, rfl, pu, kk⟩
set_option maxRecDepth 100000 in
set_option maxHeartbeats 3200000 in
theorem dbits_zet (k v : Nat) (hk1 : 1 ≤ k) (hk2 : k ≤ 16) (hv : v ≤ 1000000) (w : World) : Calls Tryz.prog 90 #[.agg #[.int .u8 3, .int .u64 (k : Int)], .int .u64 (v : Int)] w (RowPost (cb (.zet k) v) w) := by
 obtain ⟨i0, hi, hz0, hz1, hz2⟩ := info_parts Tryz.infoBool
 have LOW := Lib.hid (fun W => low_any (v + 1) (by omega) (by omega) W)
 have hlog : Nat.log2 (v + 1) < 20 := log_lt (by rw [show (2 : Nat) ^ 20 = 1048576 from rfl]; omega)
 obtain ⟨p1, p2⟩ := zet_parts k v hk1
 have HC := Lib.hid (cb_zet k v)
 obtain ⟨b, hb⟩ : ∃ b, Nat.log2 (v + 1) = b := ⟨_, rfl⟩
 obtain ⟨n, hn⟩ : ∃ n, v + 1 = n := ⟨_, rfl⟩
 rw [hb, hn] at HC p1 p2
 rw [hn] at LOW hb hlog
 rw [hb] at LOW hlog
 have hnI : (v : Int) + 1 = (n : Int) := by omega
 obtain ⟨h, hh⟩ : ∃ h, b / k = h := ⟨_, rfl⟩
 rw [hh] at p1 p2 HC
 have hhk : h * k ≤ b := by rw [← hh]; exact Nat.div_mul_le_self b k
 have hhb : h ≤ b := by rw [← hh]; exact Nat.div_le_self b k
 obtain ⟨m, hm⟩ : ∃ m, h * k = m := ⟨_, rfl⟩
 have hm1 : (h + 1) * k = m + k := by rw [Nat.add_mul, hm, Nat.one_mul]
 rw [hm1, hm] at p1 HC
 rw [hm] at p2 hhk
 have g1 : m + k ≤ 62 := by clear p1 p2 HC LOW; omega
 have g2 : m ≤ 62 := by clear p1 p2 HC LOW; omega
 have g3 : h ≤ 9223372036854775806 := by clear p1 p2 HC LOW; omega
 have g4 : h ≤ 65535 := by clear p1 p2 HC LOW; omega
 have g5 : n ≤ 9223372036854775808 := by clear p1 p2 HC LOW; omega
 have g6 : k ≤ 9223372036854775807 := by clear p1 p2 HC LOW; omega
 have hh20 : h < 20 := by clear p1 p2 HC LOW; omega
 obtain ⟨fr, hfr⟩ : ∃ fr, 2 ^ m = fr := ⟨_, rfl⟩
 obtain ⟨tt, htt⟩ : ∃ tt, 2 ^ (m + k) = tt := ⟨_, rfl⟩
 have htt2 : tt ≤ 9223372036854775808 := htt ▸ pow63 (Nat.le_trans g1 (by decide))
 have hcl : clog (tt - fr) ≤ 62 := clog_pow (Nat.le_trans (Nat.sub_le _ _) (htt ▸ Nat.pow_le_pow_right (by decide) g1))
 have hfr2 : fr ≤ tt := by rw [← hfr, ← htt]; exact Nat.pow_le_pow_right (by decide) (Nat.le_add_right _ _)
 rw [hfr, htt] at p1 HC
 rw [hfr] at p2
 have ML : (mini (n - fr) (tt - fr)).length ≤ 62 := Nat.le_trans (mini_le _ _) hcl
 have UN := Lib.hid (fun W => unary_any h g4 W)
 have MN := Lib.hid (fun W => minimal_any (n - fr) (tt - fr) (Nat.lt_of_le_of_lt (Nat.zero_le _) p1) hcl p1 W)
 obtain ⟨M, hM⟩ : ∃ M, mini (n - fr) (tt - fr) = M := ⟨_, rfl⟩
 rw [hM] at ML MN HC
 have f0 := w64_nat k g6
 have f0' := i64_nat k g6
 have f1 := quo_nat b k h hh
 have f2 := int_nz k hk1
 have f3 := i64_mul h k m hm (Nat.le_trans g2 (by decide))
 have f3' : IntKind.i64.wrap (((h : Int) + 1) * (k : Int)) = ((m + k : Nat) : Int) := i64_mul (h + 1) k (m + k) hm1 (Nat.le_trans g1 (by decide))
 have f5 := u64_pow m fr hfr (Nat.le_trans hfr2 htt2)
 have f8 := u64_pow (m + k) tt htt htt2
 have f6 := u64_sub n fr p2 g5
 have f9 := u64_sub tt fr hfr2 htt2
 have f10 := i64_nat h (Nat.le_succ_of_le g3)
 have f10' : IntKind.i64.wrap ((h : Int) + 1) = ((h + 1 : Nat) : Int) := i64_nat (h + 1) (Nat.succ_le_succ g3)
 have f12 : IntKind.u64.wrap (h : Int) = (h : Int) := IntWalk.u64_in _ ⟨Int.natCast_nonneg h, Int.le_trans (Int.ofNat_le.2 g4) (by decide)⟩
 clear hb hn p1 p2 hh hhk hhb hm hm1 hfr htt hcl hM htt2 hfr2 g3 g4 g5 g6 hlog
 go_enter Tryz.func90, Tryz.ntmps90
 go_wp2_with fail
 with_reducible refine (LOW.out _).mono ?_
 rintro e w2 ⟨rfl, rfl⟩
 go_wp2_with fail
 rw [f8]
 with_reducible refine (UN.out _).mono ?_
 rintro e w2 ⟨v2, rfl, o2, k2⟩
 have kk : Below w.heap.size w (w.alloc (.cells #[.int .u8 3, .int .u64 (k : Int)] 104)) := (Below.refl _ _).alloc (Nat.le_refl _) _
 have pu := own_base o2 kk.size
 have kk := kk.trans (k2.mono kk.size)
 clear o2 k2
 rw [un_length] at pu
 go_wp2_with fail
 with_reducible refine (MN.out _).mono ?_
 rintro e w3 ⟨v3, rfl, o3, k3⟩
 have po := own_base o3 kk.size
 have pu := own_below pu k3
 have kk := kk.trans (k3.mono kk.size)
 clear o3 k3
 have C3 : h + 1 + M.length ≤ maxLen := by simp only [maxLen]; omega
 have C4 : (h + 1 + M.length) * 1 ≤ 140737488355328 := by omega
 go_wp2_with (at_builtin; refine wpList_append_row _ rfl _ _ 26 rfl w.heap.size w.heap.size 4 i0 _ 1 Tryz.underlying26 hi hz0 hz1 hz2 rfl _ _ _ rfl pu _ _ _ rfl po (bls_one _) C3 C4 kk.size ?_)
 intro v4 w4 own4 hg4 _
 have U4 := Lib.hid (below_app kk pu own4 hg4 (by rw [List.length_append, un_length]))
 obtain ⟨a4, cap4, rfl⟩ := own_shape own4
 clear own4 hg4
 go_wp2_with fail
 go_ret
 rw [HC.out]
 exact U4.out
set_option maxRecDepth 100000 in
theorem gamma_any (v : Nat) (hv : v ≤ 1000000) (w : World) : Calls Tryz.prog 89 #[.int .i64 (v : Int)] w (RowPost (cb .gam v) w) := by
 have f12 : IntKind.u64.wrap (v : Int) = (v : Int) := IntWalk.u64_in _ (by omega)
 have G := Lib.hid (fun W => dbits_gam v hv W)
 go_enter Tryz.func89, Tryz.ntmps89
 go_wp2_with fail
 with_reducible refine (G.out _).mono ?_
 rintro e w2 ⟨v2, rfl, o2, k2⟩
 obtain ⟨a2, c2, rfl⟩ := own_shape o2
 have o3 := Lib.hid (And.intro o2 k2)
 clear o2 k2
 go_wp2_with fail
 go_ret
 exact ⟨_, rfl, o3.out.1, o3.out.2⟩
end Go.Proofs.YtflnpcgnenhogaaGreatDoor.ls
namespace Go.Proofs.YtflnpcgnenhogaaGreatDoor.ls
open Go.RowKit Go.Proofs.YtflnpcgnenhogaaGreatDoor.own Go.Proofs.YtflnpcgnenhogaaGreatDoor.bit

/-! ### the plain law -/
/-! ### rows of lists -/
/-! ### the lists so far, and one that grows -/
def ML (w0 : World) (ks : List (Nat × Obj)) (V : List Value) (v : Value) (L : List Nat) (u : Value) (W : World) : Prop :=
 LG 34 1 w0 ks V.length V v W ∧ W.ownsRow w0.heap.size 77 1 u L.length (u32V L) ∧ (∀ g, v.ownBlock = some g → u.ownBlock ≠ some g) ∧ ∀ p ∈ ks, some p.1 ≠ u.ownBlock
end Go.Proofs.YtflnpcgnenhogaaGreatDoor.ls
namespace Go.Proofs.YtflnpcgnenhogaaGreatDoor.ls
open Go.RowKit Go.Proofs.YtflnpcgnenhogaaGreatDoor.own Go.Proofs.YtflnpcgnenhogaaGreatDoor.bit

def u64V (l : List Nat) : List Value := l.map fun (v : Nat) => Value.int .u64 (v : Int)
/-- a packer, and a row of places of the call's own -/
def EA (w : World) (b : Bp) (T : List Tk) (wb E : Nat) (l : Bits) (kb : Nat) (ls ks : List (Nat × Obj)) (va : Value) (A : List Nat) (W : World) : Prop :=
 W.ownsRow 0 97 1 va A.length (u64V A) ∧ ∃ ka, KS w b T wb E 0 l none kb ls (ka ++ ks) W ∧ (∀ g, va.ownBlock = some g → ∃ o, (g, o) ∈ ka) ∧ (∀ p ∈ ka, some p.1 = va.ownBlock) ∧ ∀ p ∈ ls ++ ks, some p.1 ≠ va.ownBlock
section
variable {w W W' : World} {b : Bp} {T : List Tk} {wb E D : Nat} {l : Bits} {rd : Option (Nat × ByteArray × Nat)} {kb : Nat} {ls ks js : List (Nat × Obj)} {va : Value} {A : List Nat}
end
end Go.Proofs.YtflnpcgnenhogaaGreatDoor.ls
namespace Go.Proofs.YtflnpcgnenhogaaGreatDoor.ls
open Go.RowKit Go.Proofs.YtflnpcgnenhogaaGreatDoor.own Go.Proofs.YtflnpcgnenhogaaGreatDoor.bit

theorem FS.decode4 {w W : World} {rb a : Nat} {s : ByteArray} {wr : Option (Nat × Bits)} {ks : List (Nat × Obj)} (h : FS w wr (some (rb, s, a)) ks W) (hG : GL w) (xv n deg r : Nat) (p : Pr) (hx : xv < 65536) (hn : n ≤ 65536) (hd : deg ≤ 65536) (hr : r ≤ p.win) (hp : p.ok)
  (ar : Option Addr) (ref : List Nat) (cap : Nat) (hcap : ref.length ≤ cap) (hris : Ris ref) (hr0 : 0 < r ∨ ref = []) (hA : LV W ar ref) (hAk : ∀ g o, ar = some ⟨g, o, none⟩ → 0 < ref.length → g < w.heap.size ∨ ∃ o', (g, o') ∈ ks) (q : List Nat × Nat) (hq : dec (unpack (nats s)) xv n deg ref r p a = some q) :
  Calls Tryz.prog 16 #[.pointer (some ⟨rb, 0, none⟩), .int .i64 (xv : Int), .int .i64 (n : Int), .agg #[.int .i64 (deg : Int), .int .i64 (r : Int)], .slice ar ref.length cap, parV (p.win : Int) (p.itv : Int) (p.zet : Int)] W fun e w' =>
   ∃ v kv, e = .returned (.tuple #[v, .int .i64 0]) ∧ w'.ownsRow 0 77 1 v q.1.length (u32V q.1) ∧ (∀ g, v.ownBlock = some g → ∃ o, (g, o) ∈ kv) ∧ (∀ p ∈ kv, some p.1 = v.ownBlock ∧ W.heap.size ≤ p.1) ∧ FS w wr (some (rb, s, q.2)) (kv ++ ks) w' := by
 have kb := h.below
 obtain ⟨x, hf, hw, hrd, hk⟩ := h
 obtain ⟨m, hm0, hm⟩ := fresh x 100 W.heap.size
 have e0 : x 0 = 100 := hf.col 0 (World.block_lt_of_cell? _ _ hG.g0)
 have e1 : x 1 = 100 := hf.col 1 (World.block_lt_of_cell? _ _ hG.u0)
 have hre : RE x 5 1 m W rb s a [] W := RE.start (hrd _ rfl) (Below.refl _ _) [] (fun p hp => by cases hp)
 refine (decode_any x 5 1 m (by decide) (by omega) (by omega) W (hG.below kb) (by unfold GlC; rw [e0, e1]; omega) rb s a [] W hre xv n deg r p hx hn hd hr hp ar ref cap hcap hris hr0 hA (fun g o e h0 => ?_)).mono ?_
 ·have hc : x g = 100 ∨ x g = 4 := by
   rcases hAk g o e h0 with h | ⟨o', h⟩
   ·exact .inl (hf.col g h)
   ·exact .inr (hk _ h).1
  rcases hc with hc | hc <;> · rw [hc]; omega
 ·intro e w' hD
  rw [hq] at hD
  obtain ⟨v, rfl, h1, kv, h2, h3, _, x', f2, hr2, hk2⟩ := hD
  have hnew : ∀ p ∈ kv, W.heap.size ≤ p.1 := fun p hp => by
   rcases Nat.lt_or_ge p.1 W.heap.size with hl | hl
   ·have c1 := f2.col p.1 hl
    have c2 := (hk2 p (List.mem_append_left _ hp)).1
    have := hm p.1 hl
    omega
   ·exact hl
  have f3 : Fr x (fun b => if b < W.heap.size then x b else if some b = v.ownBlock then 4 else 6) (fun c => c = 5 ∨ c = 1 ∨ c = 4 ∨ c = 6) W w' := ⟨f2.os, f2.tape, f2.output, f2.size, fun b hb => if_pos hb, fun b hb _ => by
   show (if b < W.heap.size then x b else if some b = v.ownBlock then 4 else 6) = 5 ∨ (if b < W.heap.size then x b else if some b = v.ownBlock then 4 else 6) = 1 ∨ (if b < W.heap.size then x b else if some b = v.ownBlock then 4 else 6) = 4 ∨ (if b < W.heap.size then x b else if some b = v.ownBlock then 4 else 6) = 6
   rw [if_neg (by omega)]
   split
   ·exact .inr (.inr (.inl rfl))
   ·exact .inr (.inr (.inr rfl)), fun b hb hC => f2.old b hb (fun hc => by
    have := hm b hb
    rcases hc with hc | hc | hc
    ·exact hC (.inl hc)
    ·exact hC (.inr (.inl hc))
    ·omega)⟩
  obtain ⟨r1, r2, r3⟩ := hrd _ rfl
  have hrlt := lt_of_block r1
  refine ⟨v, kv, rfl, h1, h2, fun p hp => ⟨h3 p hp, hnew p hp⟩, _, hf.trans (f3.mono (fun c hc => by show c < 50; omega)), fun q' e => (hw q' e).frame f3 (by decide), fun q' e => ?_, fun p hp => ?_⟩
  ·cases e
   exact ⟨hr2.1, (if_pos hrlt).trans r2, hr2.2.2⟩
  ·rcases List.mem_append.1 hp with hp | hp
   ·refine ⟨?_, (hk2 p (List.mem_append_left _ hp)).2⟩
    show (if p.1 < W.heap.size then x p.1 else if some p.1 = v.ownBlock then 4 else 6) = 4
    rw [if_neg (by have := hnew p hp; omega), if_pos (h3 p hp)]
   ·obtain ⟨c1, c2⟩ := hk p hp
    have hl := lt_of_block c2
    refine ⟨(if_pos hl).trans c1, (f2.old p.1 hl (by rw [c1]; omega)).trans c2⟩
end Go.Proofs.YtflnpcgnenhogaaGreatDoor.ls
namespace Go.Proofs.YtflnpcgnenhogaaGreatDoor.ls
open Go.RowKit Go.Proofs.YtflnpcgnenhogaaGreatDoor.own Go.Proofs.YtflnpcgnenhogaaGreatDoor.bit

theorem hread_end {win a : Nat} {B : Bits} {q : Nat × Nat × Nat} (h : hread win B a = some q) (ha : a ≤ B.length) : q.2.2 ≤ B.length := by
 unfold hread at h
 obtain ⟨q1, h1, h⟩ := Option.bind_eq_some_iff.1 h
 have b1 := (rd_bound .gam (by trivial) h1).2
 rw [List.length_drop] at b1
 split at h
 ·obtain ⟨q2, h2, h⟩ := Option.bind_eq_some_iff.1 h
  have b2 := (rd_bound .una (by trivial) h2).2
  rw [List.length_drop] at b2
  split at h
  ·injection h with h
   subst h
   dsimp only
   omega
  ·cases h
 ·split at h
  ·injection h with h
   subst h
   dsimp only
   omega
  ·cases h
theorem dec_some {B : Bits} {x n deg : Nat} {ref : List Nat} {r : Nat} {p : Pr} (hp : p.ok) {a : Nat} {q : List Nat × Nat} (ha : a ≤ B.length) (h : dec B x n deg ref r p a = some q) : q.1.Pairwise (· < ·) ∧ q.1.length = deg ∧ (∀ v ∈ q.1, v < n) ∧ a ≤ q.2 := by
 unfold dec at h
 obtain ⟨⟨c, l, z, a'⟩, h1, h⟩ := Option.bind_eq_some_iff.1 h
 have k := pars_le hp h1 ha
 split at h
 ·rename_i hc
  injection h with h
  subst h
  have pm := srtN_perm (c ++ l ++ z)
  exact ⟨hc.1, pm.length_eq.trans hc.2.1, fun v hv => hc.2.2.1 v (pm.mem_iff.1 hv), k.1⟩
 ·cases h
/-! ### rows of a call's own, each in blocks of its own -/
def KA (ka : List (Nat × Obj)) (v : Value) : Prop := (∀ g, v.ownBlock = some g → ∃ o, (g, o) ∈ ka) ∧ ∀ p ∈ ka, some p.1 = v.ownBlock
theorem KA.none : KA [] (.slice none 0 0) := ⟨fun g hg => (by cases hg), fun p hp => (by cases hp)⟩
def Off (K : List (Nat × Obj)) (v : Value) : Prop := ∀ p ∈ K, some p.1 ≠ v.ownBlock
theorem Off.none (K : List (Nat × Obj)) : Off K (.slice none 0 0) := fun p _ e => by cases e
theorem Off.app {a b : List (Nat × Obj)} {v : Value} (h : Off a v) (k : Off b v) : Off (a ++ b) v := fun p hp => (List.mem_append.1 hp).elim (h p) (k p)
theorem Off.sub {a b : List (Nat × Obj)} {v : Value} (h : Off a v) (k : ∀ p ∈ b, p ∈ a) : Off b v := fun p hp => h p (k p hp)
/-- such a row grows, the rest stands still -/
theorem FS.push {w W W2 : World} {wr : Option (Nat × Bits)} {rd : Option (Nat × ByteArray × Nat)} {ka K : List (Nat × Obj)} {v v' : Value} {T : TypeId} {n : Nat} {xs : List Value} (h : FS w wr rd (ka ++ K) W) (ha : KA ka v) (hoff : Off K v) (hg : W.grownBy W2 v.ownBlock) (own : W2.ownsRow 0 T 1 v' n xs) (hw : v'.ownBlock = v.ownBlock ∨ v'.ownBlock = some W.heap.size) :
  ∃ k2, KA k2 v' ∧ Off K v' ∧ FS w wr rd (k2 ++ K) W2 ∧ ∀ p ∈ k2, (∃ o, (p.1, o) ∈ ka) ∨ W.heap.size ≤ p.1 := by
 obtain ⟨k2, hk1, hk2, hk3⟩ := own_ks own
 have old : ∀ p ∈ K, p.1 < W.heap.size := fun p hp => lt_of_block (h.row (b := p.1) (o := p.2) (List.mem_append_right _ hp))
 refine ⟨k2, ⟨hk1, hk2⟩, fun p hp => own_new hw (old p hp) (hoff p hp), h.grown hg (fun g e => ?_) (fun p hp => ?_), fun p hp => ?_⟩
 ·obtain ⟨o, ho⟩ := ha.1 g e
  exact ⟨o, List.mem_append_left _ ho⟩
 ·rcases List.mem_append.1 hp with hp | hp
  ·refine .inr ⟨?_, hk3 p hp⟩
   rcases hw with e | e
   ·exact .inl ((hk2 p hp).trans e)
   ·have := (hk2 p hp).trans e
    injection this with this
    exact .inr (by omega)
  ·exact .inl ⟨List.mem_append_right _ hp, hoff p hp⟩
 ·rcases hw with e | e
  ·have := (hk2 p hp).trans e
   exact .inl (ha.1 _ this.symm)
  ·have := (hk2 p hp).trans e
   injection this with this
   exact .inr (by omega)
end Go.Proofs.YtflnpcgnenhogaaGreatDoor.ls
namespace Go.Proofs.YtflnpcgnenhogaaGreatDoor.ls
open Go.RowKit Go.Proofs.YtflnpcgnenhogaaGreatDoor.own Go.Proofs.YtflnpcgnenhogaaGreatDoor.bit

/-- a reader, the ring of the last lists, its lists, rows beside -/
def NX (w : World) (wr : Option (Nat × Bits)) (T : List Tk) (rb : Nat) (s : ByteArray) (a lb : Nat) (ls ks : List (Nat × Obj)) (W : World) : Prop :=
 ∃ row, FS w wr (some (rb, s, a)) ((lb, .cells row 126 (0, 0)) :: (ls ++ ks)) W ∧ (∀ p ∈ ls ++ ks, p.1 ≠ lb) ∧ row.size = 35 ∧ Ring T row 0 ls
/-- what Decode of a list answers -/
def DecG (w : World) (wr : Option (Nat × Bits)) (N rb : Nat) (s : ByteArray) (a : Nat) (ks : List (Nat × Obj)) (O : Option (List Nat × Nat)) (v : Value) (ec : Int) (w' : World) : Prop :=
 match O with
 | some q => ec = 0 ∧ ∃ kv : List (Nat × Obj), w'.ownsRow 0 77 1 v q.1.length (u32V q.1) ∧ (∀ g, v.ownBlock = some g → ∃ o, (g, o) ∈ kv) ∧ (∀ p ∈ kv, N ≤ p.1) ∧ FS w wr (some (rb, s, q.2)) (kv ++ ks) w'
 | none => ec = 4 ∧ v = .slice none 0 0 ∧ FS w wr (some (rb, s, a)) ks w'
def DecF (w : World) (wr : Option (Nat × Bits)) (N rb : Nat) (s : ByteArray) (a : Nat) (ks : List (Nat × Obj)) (O : Option (List Nat × Nat)) (e : Ending) (w' : World) : Prop :=
 ∃ (v : Value) (ec : Int), e = .returned (.tuple #[v, .int .i64 ec]) ∧ DecG w wr N rb s a ks O v ec w'
theorem FS.decode5 {w W : World} {rb a : Nat} {s : ByteArray} {wr : Option (Nat × Bits)} {ks : List (Nat × Obj)} (h : FS w wr (some (rb, s, a)) ks W) (hG : GL w) (xv n deg r : Nat) (p : Pr) (hx : xv < 65536) (hn : n ≤ 65536) (hd : deg ≤ 65536) (hr : r ≤ p.win) (hp : p.ok)
  (ar : Option Addr) (ref : List Nat) (cap : Nat) (hcap : ref.length ≤ cap) (hris : Ris ref) (hr0 : 0 < r ∨ ref = []) (hA : LV W ar ref) (hAk : ∀ g o, ar = some ⟨g, o, none⟩ → 0 < ref.length → g < w.heap.size ∨ ∃ o', (g, o') ∈ ks) :
  Calls Tryz.prog 16 #[.pointer (some ⟨rb, 0, none⟩), .int .i64 (xv : Int), .int .i64 (n : Int), .agg #[.int .i64 (deg : Int), .int .i64 (r : Int)], .slice ar ref.length cap, parV (p.win : Int) (p.itv : Int) (p.zet : Int)] W (DecF w wr W.heap.size rb s a ks (dec (unpack (nats s)) xv n deg ref r p a)) := by
 cases hq : dec (unpack (nats s)) xv n deg ref r p a with
 | some q =>
  refine (h.decode4 hG xv n deg r p hx hn hd hr hp ar ref cap hcap hris hr0 hA hAk q hq).mono ?_
  rintro e w' ⟨v, kv, h1, h2, h3, h4, h5⟩
  exact ⟨v, 0, h1, rfl, kv, h2, h3, fun p hp => (h4 p hp).2, h5⟩
 | none =>
  have kb := h.below
  obtain ⟨x, hf, hw, hrd, hk⟩ := h
  obtain ⟨m, hm0, hm⟩ := fresh x 100 W.heap.size
  have e0 : x 0 = 100 := hf.col 0 (World.block_lt_of_cell? _ _ hG.g0)
  have e1 : x 1 = 100 := hf.col 1 (World.block_lt_of_cell? _ _ hG.u0)
  have hre : RE x 5 1 m W rb s a [] W := RE.start (hrd _ rfl) (Below.refl _ _) [] (fun p hp => by cases hp)
  refine (decode_any x 5 1 m (by decide) (by omega) (by omega) W (hG.below kb) (by unfold GlC; rw [e0, e1]; omega) rb s a [] W hre xv n deg r p hx hn hd hr hp ar ref cap hcap hris hr0 hA (fun g o e h0 => ?_)).mono ?_
  ·have hc : x g = 100 ∨ x g = 4 := by
    rcases hAk g o e h0 with h | ⟨o', h⟩
    ·exact .inl (hf.col g h)
    ·exact .inr (hk _ h).1
   rcases hc with hc | hc <;> · rw [hc]; omega
  ·intro e w' hD
   rw [hq] at hD
   obtain ⟨rfl, x', f2, hr2, hk2⟩ := hD
   refine ⟨_, _, rfl, rfl, rfl, ?_⟩
   have f3 : Fr x (fun b => if b < W.heap.size then x b else 6) (fun c => c = 5 ∨ c = 1 ∨ c = 6) W w' := ⟨f2.os, f2.tape, f2.output, f2.size, fun b hb => if_pos hb, fun b hb _ => by
    show (if b < W.heap.size then x b else 6) = 5 ∨ (if b < W.heap.size then x b else 6) = 1 ∨ (if b < W.heap.size then x b else 6) = 6
    rw [if_neg (by omega)]
    exact .inr (.inr rfl), fun b hb hC => f2.old b hb (fun hc => by
     have := hm b hb
     rcases hc with hc | hc | hc
     ·exact hC (.inl hc)
     ·exact hC (.inr (.inl hc))
     ·omega)⟩
   obtain ⟨r1, r2, r3⟩ := hrd _ rfl
   have hrlt := lt_of_block r1
   refine ⟨_, hf.trans (f3.mono (fun c hc => by show c < 50; omega)), fun q' e => (hw q' e).frame f3 (by decide), fun q' e => ?_, fun p hp => ?_⟩
   ·cases e
    exact ⟨hr2.1, (if_pos hrlt).trans r2, hr2.2.2⟩
   ·obtain ⟨c1, c2⟩ := hk p hp
    have hl := lt_of_block c2
    exact ⟨(if_pos hl).trans c1, (f2.old p.1 hl (by rw [c1]; omega)).trans c2⟩
end Go.Proofs.YtflnpcgnenhogaaGreatDoor.ls
namespace Go.Proofs.YtflnpcgnenhogaaGreatDoor.ls
open Go.RowKit Go.Proofs.YtflnpcgnenhogaaGreatDoor.own Go.Proofs.YtflnpcgnenhogaaGreatDoor.bit

def lay13 : Bits := [false, false, true, false, false, true, false, true, false, true, false, true, false]
theorem lay13_eq : lay 5 [5, 6, 7] [] 0 ⟨1, 2, 3⟩ = lay13 := by
 have e1 : leftOf [5, 6, 7] [] = [5, 6, 7] := by simp [leftOf, isIn]
 have e2 : rws 2 [5, 6, 7] = ([(5, 3)], []) := by
  rw [rws]
  simp [cons1, rws_nil]
 have e3 : nums 5 [5, 6, 7] [] 0 ⟨1, 2, 3⟩ = [(.gam, 3), (.una, 0), (.gam, 1), (.gam, 0), (.gam, 1)] := by
  unfold nums hdN tlN runN restN
  simp [e1, e2, lnm, znm, zig]
 unfold lay
 rw [e3]
 decide
theorem txt13 : txt (packN lay13) = ⟨#[37, 80]⟩ := by
 unfold lay13
 rw [packN_cons (by simp), packN_cons (by simp), List.drop_drop]
 rw [show List.drop (8 + 8) [false, false, true, false, false, true, false, true, false, true, false, true, false] = ([] : Bits) from rfl, packN_nil]
 decide
theorem may13 : MayN 5 [5, 6, 7] [] 0 ⟨1, 2, 3⟩ := ⟨⟨by decide, by decide, by decide, by decide⟩, by decide, ⟨by decide, by decide⟩, ⟨by decide, by decide⟩, by decide, .inr rfl⟩
theorem head13 : hread 1 (unpack (nats ⟨#[37, 80]⟩)) 0 = some (3, 0, 6) ∧ dec (unpack (nats ⟨#[37, 80]⟩)) 5 10 3 [] 0 ⟨1, 2, 3⟩ 6 = some ([5, 6, 7], 13) := by
 obtain ⟨R, hR⟩ := text_back lay13
 rw [txt13] at hR
 have e0 : (bitsOf (hdN [5, 6, 7] 0 ⟨1, 2, 3⟩)).length = 6 := by
  have : hdN [5, 6, 7] 0 ⟨1, 2, 3⟩ = [(.gam, 3), (.una, 0)] := by simp [hdN]
  rw [this]
  decide
 obtain ⟨h1, h2⟩ := hread_lay (B := unpack (nats ⟨#[37, 80]⟩)) (R := R) (a := 0) may13 (by rw [List.drop_zero, hR, lay13_eq])
 rw [e0] at h1 h2
 have h3 := dec_back _ R 5 10 [5, 6, 7] [] 0 ⟨1, 2, 3⟩ (0 + 6) may13 (by simp) (by decide) h2
 have e4 : (bitsOf (tlN 5 [5, 6, 7] [] 0 ⟨1, 2, 3⟩)).length = 7 := by
  have h5 := congrArg List.length (lay_parts 5 [5, 6, 7] [] 0 ⟨1, 2, 3⟩)
  rw [lay13_eq, List.length_append, e0] at h5
  have : lay13.length = 13 := rfl
  omega
 rw [e4] at h3
 exact ⟨h1, h3⟩
theorem FS.enc2 {w W : World} {ks : List (Nat × Obj)} {wb : Nat} (h : FS w (some (wb, [])) none ks W) (hG : GL w) (p : Pr) (x : Nat) (a : Option Addr) (succ : List Nat) (cap : Nat) (b : Option Addr) (ref : List Nat) (capb r : Nat) (hc : succ.length ≤ cap) (hcb : ref.length ≤ capb) (hm : MayN x succ ref r p) (hA : LV W a succ) (hB : LV W b ref) :
  Calls Tryz.prog 59 #[.pointer (some ⟨wb, 0, none⟩), .int .i64 (x : Int), .slice a succ.length cap, .slice b ref.length capb, .int .i64 (r : Int), parV (p.win : Int) (p.itv : Int) (p.zet : Int)] W fun e w' =>
   e = .returned (.int .i64 0) ∧ FS w (some (wb, lay x succ ref r p)) none ks w' := by
 have kb := h.below
 obtain ⟨y, hf, hw, -, hk⟩ := h
 have hl := lay_len hm
 refine (lenc_yes y 0 1 2 (by decide) (by decide) (by decide) p x W (hG.below kb) wb [] a succ cap b ref capb r hc hcb hm hA hB (by simp only [List.length_nil]; omega) (hw _ rfl)).mono ?_
 rintro e w' ⟨rfl, x', f2, hw2⟩
 exact ⟨rfl, x', hf.trans (f2.mono (fun c hc => by show c < 50; omega)), fun q e => by cases e; exact hw2, fun q e => (by cases e), rows_frame hk f2 (by decide)⟩
theorem lv567 {W : World} {sb : Nat} (r : W.heap[sb]? = some (.cells #[.int .u32 5, .int .u32 6, .int .u32 7] 77 (0, 0))) : LV W (some ⟨sb, 0, none⟩) [5, 6, 7] := by
 refine ⟨by decide, fun i hi => ⟨sb, 0, rfl, lt_of_block r, ?_, ?_⟩⟩
 ·have : i = 0 ∨ i = 1 ∨ i = 2 := by simp at hi; omega
  rcases this with rfl | rfl | rfl <;> · rw [cell_of_row _ _ _ _ _ _ r]; rfl
 ·have : i = 0 ∨ i = 1 ∨ i = 2 := by simp at hi; omega
  rcases this with rfl | rfl | rfl <;> simp
set_option maxRecDepth 100000 in
set_option maxHeartbeats 3200000 in
theorem awake13_any (w : World) (hG : GL w) : Calls Tryz.prog 20 #[] w fun e w' => e = .returned (.bool true) ∧ Below w.heap.size w w' := by
 have G := Lib.hid hG
 obtain ⟨pb, hpb⟩ : ∃ z, w.heap.size = z := ⟨_, rfl⟩
 have F0 := (FS.start w).add #[.int .i64 1, .int .i64 2, .int .i64 3] 42
 rw [hpb] at F0
 have MP : ∀ W wr rd ks, FS w wr rd ks W → (pb, Obj.cells #[.int .i64 1, .int .i64 2, .int .i64 3] 42 (0, 0)) ∈ ks → W.cell? ⟨pb, 0, none⟩ = some (.int .i64 1) ∧ W.cell? ⟨pb, 1, none⟩ = some (.int .i64 2) ∧ W.cell? ⟨pb, 2, none⟩ = some (.int .i64 3) := fun W wr rd ks h hm => by
  have r := h.row hm
  exact ⟨by rw [cell_of_row _ _ _ _ _ _ r]; rfl, by rw [cell_of_row _ _ _ _ _ _ r]; rfl, by rw [cell_of_row _ _ _ _ _ _ r]; rfl⟩
 have MP := Lib.hid MP
 clear hG
 go_enter Tryz.func20, Tryz.ntmps20
 go_upto_region 2 with fail
 generalize World.alloc w _ = w1 at F0 ⊢
 have N1 := Lib.hid F0.new
 clear F0
 go_wp2_with fail
 with_reducible refine N1.out.mono ?_
 rintro e w2 ⟨wb, rfl, h2⟩
 obtain ⟨sb, hsb⟩ : ∃ z, w2.heap.size = z := ⟨_, rfl⟩
 have h3 := h2.add #[.int .u32 5, .int .u32 6, .int .u32 7] 77
 rw [hsb] at h3
 have lv3 := lv567 (h3.row (List.mem_cons_self ..))
 obtain ⟨p0, p1, p2⟩ := MP.out _ _ _ _ h3 (List.mem_cons_of_mem _ (List.mem_cons_self ..))
 have E3 : Hid (Calls Tryz.prog 59 #[.pointer (some ⟨wb, 0, none⟩), .int .i64 5, .slice (some ⟨sb, 0, none⟩) 3 3, .slice none 0 0, .int .i64 0, .agg #[.int .i64 1, .int .i64 2, .int .i64 3]] (w2.alloc (.cells #[.int .u32 5, .int .u32 6, .int .u32 7] 77)) fun e w' => e = .returned (.int .i64 0) ∧ FS w (some (wb, lay 5 [5, 6, 7] [] 0 ⟨1, 2, 3⟩)) none ((sb, .cells #[.int .u32 5, .int .u32 6, .int .u32 7] 77 (0, 0)) :: (pb, .cells #[.int .i64 1, .int .i64 2, .int .i64 3] 42 (0, 0)) :: []) w') :=
  Lib.hid (h3.enc2 G.out ⟨1, 2, 3⟩ 5 (some ⟨sb, 0, none⟩) [5, 6, 7] 3 none [] 0 0 (by decide) (by decide) may13 lv3 LV.nil)
 rw [lay13_eq] at E3
 clear h2 lv3 h3
 go_wp2_with fail
 with_reducible refine E3.out.mono ?_
 rintro e w4 ⟨rfl, h4⟩
 clear E3 p0 p1 p2
 obtain ⟨p0, p1, p2⟩ := MP.out _ _ _ _ h4 (List.mem_cons_of_mem _ (List.mem_cons_self ..))
 have T4 := Lib.hid h4.text
 rw [txt13] at T4
 have F4 := Lib.hid h4
 clear h4
 go_wp2_with fail
 with_reducible refine T4.out.mono ?_
 rintro e w5 ⟨rfl, rfl⟩
 have O5 := Lib.hid (F4.out.open ⟨#[37, 80]⟩ (by decide))
 clear T4 p0 p1 p2
 go_wp2_with fail
 with_reducible refine O5.out.mono ?_
 rintro e w6 ⟨rb, rfl, h6⟩
 clear O5 F4
 obtain ⟨p0, p1, p2⟩ := MP.out _ _ _ _ h6 (List.mem_cons_of_mem _ (List.mem_cons_self ..))
 have H6 := h6.head G.out ⟨1, 2, 3⟩ (by exact ⟨by decide, by decide, by decide, by decide⟩)
 dsimp only at H6
 rw [head13.1] at H6
 have H6 : Hid (Calls Tryz.prog 11 #[.pointer (some ⟨rb, 0, none⟩), .agg #[.int .i64 1, .int .i64 2, .int .i64 3]] w6 fun e w' => e = .returned (.tuple #[.agg #[.int .i64 3, .int .i64 0], .int .i64 0]) ∧ FS w (some (wb, lay13)) (some (rb, ⟨#[37, 80]⟩, 6)) ((sb, .cells #[.int .u32 5, .int .u32 6, .int .u32 7] 77 (0, 0)) :: (pb, .cells #[.int .i64 1, .int .i64 2, .int .i64 3] 42 (0, 0)) :: []) w') := Lib.hid H6
 clear h6
 go_wp2_with fail
 with_reducible refine H6.out.mono ?_
 rintro e w7 ⟨rfl, h7⟩
 obtain ⟨hb, hhb⟩ : ∃ z, w7.heap.size = z := ⟨_, rfl⟩
 have h8 := h7.add #[.int .i64 3, .int .i64 0] 39
 rw [hhb] at h8
 clear H6 h7 p0 p1 p2
 go_upto_region 7 with fail
 generalize World.alloc w7 _ = w8 at h8 ⊢
 have D8 := (h8.decode5 G.out 5 10 3 0 ⟨1, 2, 3⟩ (by decide) (by decide) (by decide) (by decide) (by exact ⟨by decide, by decide, by decide, by decide⟩) none [] 0 (by decide) ⟨by decide, by decide⟩ (.inr rfl) LV.nil (fun g o e => by cases e))
 dsimp only at D8
 rw [head13.2] at D8
 have D8 : Hid (Calls Tryz.prog 16 #[.pointer (some ⟨rb, 0, none⟩), .int .i64 5, .int .i64 10, .agg #[.int .i64 3, .int .i64 0], .slice none 0 0, .agg #[.int .i64 1, .int .i64 2, .int .i64 3]] w8 (DecF w (some (wb, lay13)) w8.heap.size rb ⟨#[37, 80]⟩ 6 ((hb, .cells #[.int .i64 3, .int .i64 0] 39 (0, 0)) :: (sb, .cells #[.int .u32 5, .int .u32 6, .int .u32 7] 77 (0, 0)) :: (pb, .cells #[.int .i64 1, .int .i64 2, .int .i64 3] 42 (0, 0)) :: []) (some ([5, 6, 7], 13)))) := Lib.hid D8
 obtain ⟨p0, p1, p2⟩ := MP.out _ _ _ _ h8 (List.mem_cons_of_mem _ (List.mem_cons_of_mem _ (List.mem_cons_self ..)))
 have r8 := h8.row (List.mem_cons_self ..)
 have c0 : w8.cell? ⟨hb, 0, none⟩ = some (.int .i64 3) := by rw [cell_of_row _ _ _ _ _ _ r8]; rfl
 have c1 : w8.cell? ⟨hb, 1, none⟩ = some (.int .i64 0) := by rw [cell_of_row _ _ _ _ _ _ r8]; rfl
 clear h8 r8
 go_wp2_with fail
 with_reducible refine D8.out.mono ?_
 rintro e w9 ⟨v, ec, rfl, rfl, kv, o1, o2, o3, h9⟩
 clear c0 c1 p0 p1 p2 D8
 have r9 := h9.row (b := hb) (o := .cells #[.int .i64 3, .int .i64 0] 39 (0, 0)) (List.mem_append_right _ (List.mem_cons_self ..))
 obtain ⟨av, cv, rfl, hcv, hLV⟩ := lv_own (by decide) (by decide) o1
 have F9 := Lib.hid h9
 have L9 := Lib.hid hLV
 have R9 := Lib.hid r9
 have LN := Lib.hid h9.len
 clear h9 hLV r9 o1 o2 o3
 have bb : ((⟨#[37, 80]⟩ : ByteArray) == ⟨#[37, 80]⟩) = true := by decide
 have c0 : w9.cell? ⟨hb, 0, none⟩ = some (.int .i64 3) := by rw [cell_of_row _ _ _ _ _ _ R9.out]; rfl
 have c1 : w9.cell? ⟨hb, 1, none⟩ = some (.int .i64 0) := by rw [cell_of_row _ _ _ _ _ _ R9.out]; rfl
 go_wp2_with fail
 with_reducible refine LN.out.mono ?_
 rintro e w10 ⟨rfl, rfl⟩
 go_wp2_with fail
 have KB : Below w.heap.size w (w9.alloc (.cells #[.int .u32 5, .int .u32 6, .int .u32 7] 77)) := F9.out.below.alloc F9.out.below.size _
 refine (same_any _ av [5, 6, 7] cv (some ⟨w9.heap.size, 0, none⟩) [5, 6, 7] 3 hcv (by decide) (L9.out.below ((Below.refl _ _).alloc (Nat.le_refl _) _)) (lv567 (heap_alloc_new w9 _))).mono ?_
 rintro e w11 ⟨rfl, k⟩
 have K2 := Lib.hid (KB.trans (k.mono KB.size))
 rw [decide_eq_true (show ([5, 6, 7] : List Nat) = [5, 6, 7] from rfl)]
 clear KB k
 go_wp2_with fail
 go_ret
 exact ⟨rfl, K2.out⟩
end Go.Proofs.YtflnpcgnenhogaaGreatDoor.ls
namespace Go.Proofs.YtflnpcgnenhogaaGreatDoor.ls
open Go.RowKit Go.Proofs.YtflnpcgnenhogaaGreatDoor.own Go.Proofs.YtflnpcgnenhogaaGreatDoor.bit

/-- bits in memory that are only read -/
def BlV (w : World) (a : Option Addr) (l : Bits) : Prop := ∀ k (hk : k < l.length), ∃ g o, a = some ⟨g, o, none⟩ ∧ g < w.heap.size ∧ w.cell? ⟨g, o + k, none⟩ = some (.bool l[k])
theorem BlV.below {w w' : World} {a : Option Addr} {l : Bits} (h : BlV w a l) (k : Below w.heap.size w w') : BlV w' a l := fun i hi => by
 obtain ⟨g, o, h1, h2, h3⟩ := h i hi
 exact ⟨g, o, h1, Nat.lt_of_lt_of_le h2 k.size, (k.cell h2).trans h3⟩
theorem num_snoc (l : Bits) (i : Nat) (hi : i < l.length) : num (l.take (i + 1)) = 2 * num (l.take i) + (if l[i] then 1 else 0) := by
 rw [List.take_succ_eq_append_getElem hi, num_append]
 show num (l.take i) * 2 ^ 1 + num [l[i]] = _
 have : num [l[i]] = if l[i] then 1 else 0 := by simp [num]
 rw [this]
 omega
theorem num_take_lt (l : Bits) (i : Nat) (hi : i ≤ 63) : num (l.take i) < 9223372036854775808 := by
 have h := num_lt (l.take i)
 have h2 : (l.take i).length ≤ 63 := by rw [List.length_take]; omega
 exact Nat.lt_of_lt_of_le h (Nat.le_trans (Nat.pow_le_pow_right (by decide) h2) (by decide))
set_option maxRecDepth 100000 in
theorem Number_any (w : World) (a : Option Addr) (cap : Nat) (l : Bits) (hl : l.length ≤ 64) (h : BlV w a l) :
  Calls Tryz.prog 129 #[.slice a l.length cap] w fun e w' => e = .returned (.int .u64 (num l : Int)) ∧ Below w.heap.size w w' := by
 have H := Lib.hid h
 obtain ⟨n, hn⟩ : ∃ z, l.length = z := ⟨_, rfl⟩
 have HN := Lib.hid hn
 rw [hn] at hl ⊢
 clear h hn
 go_enter Tryz.func129, Tryz.ntmps129
 go_wp2_with fail
 go_loopw [3, 4] (fun v2 v3 wr => ∃ i : Nat, v3 = .int .i64 (i : Int) ∧ i ≤ n ∧ v2 = .int .u64 (num (l.take i) : Int) ∧ Below w.heap.size w wr) (fun _ v3 _ => n - (intOf v3).toNat)
 case atStart => exact ⟨0, rfl, Nat.zero_le _, rfl, Below.refl _ _⟩
 case round =>
  obtain ⟨i, rfl, hi, rfl, hb⟩ := hrel
  by_cases hlt : i < n
  ·obtain ⟨g, o, rfl, hg, hc⟩ := H.out i (by rw [HN.out]; exact hlt)
   have cw := (hb.cell hg).trans hc
   have hs := num_snoc l i (by rw [HN.out]; exact hlt)
   have ht := num_take_lt l i (by omega)
   obtain ⟨q, hq⟩ : ∃ q, num (l.take i) = q := ⟨_, rfl⟩
   rw [hq] at hs ht ⊢
   have HS := Lib.hid hs
   have u1 : IntKind.u64.wrap (2 * (q : Int)) = 2 * (q : Int) := IntWalk.u64_in _ (by omega)
   have u2 : IntKind.u64.wrap (2 * (q : Int) + 1) = 2 * (q : Int) + 1 := IntWalk.u64_in _ (by omega)
   generalize (l[i]'(by rw [HN.out]; exact hlt)) = c at *
   clear hs hc hq
   cases c
   ·go_wp2_with fail
    go_roundw
    case rel => exact ⟨i + 1, by go_num, by omega, by rw [HS.out]; simp, hb⟩
    case measure => simp [intOf]; try omega
   ·go_wp2_with fail
    go_roundw
    case rel => exact ⟨i + 1, by go_num, by omega, by rw [HS.out]; simp, hb⟩
    case measure => simp [intOf]; try omega
  ·obtain rfl : i = n := by omega
   have e : l.take i = l := List.take_of_length_le (by rw [HN.out]; exact Nat.le_refl _)
   rw [e] at *
   have HB := Lib.hid hb
   go_wp2_with fail
   go_ret
   exact ⟨rfl, HB.out⟩
end Go.Proofs.YtflnpcgnenhogaaGreatDoor.ls
namespace Go.Proofs.YtflnpcgnenhogaaGreatDoor.ls
open Go.RowKit Go.Proofs.YtflnpcgnenhogaaGreatDoor.own Go.Proofs.YtflnpcgnenhogaaGreatDoor.bit

/-- bits that stand in these blocks -/
def BSt (K : List (Nat × Obj)) (a : Option Addr) (B : Bits) : Prop := ∀ W : World, (∀ p ∈ K, W.heap[p.1]? = some p.2) → BlV W a B
/-- a reader of the document's, its bits, its place; blocks beside -/
def DRd (w : World) (wr : Option (Nat × Bits)) (rd : Option (Nat × ByteArray × Nat)) (rb : Nat) (aB : Option Addr) (dB : Nat) (B : Bits) (p : Nat) (K : List (Nat × Obj)) (W : World) : Prop :=
 FS w wr rd ((rb, .cells #[.slice aB B.length dB, .int .i64 (p : Int)] 29 (0, 0)) :: K) W ∧ (∀ q ∈ K, q.1 ≠ rb) ∧ BSt K aB B ∧ p ≤ B.length ∧ B.length ≤ dB ∧ B.length ≤ 4611686018427387903 ∧ (aB = none ∧ dB = 0 ∨ ∃ g o, aB = some ⟨g, o, none⟩)
section
variable {w W W2 : World} {wr : Option (Nat × Bits)} {rd : Option (Nat × ByteArray × Nat)} {rb : Nat} {aB : Option Addr} {dB : Nat} {B : Bits} {p : Nat} {K : List (Nat × Obj)}
theorem DRd.next (h : DRd w wr rd rb aB dB B p K W) (k : Below W.heap.size W W2) : DRd w wr rd rb aB dB B p K W2 := ⟨h.1.next k, h.2⟩
theorem DRd.drew (h : DRd w wr rd rb aB dB B p K W) : DRd w wr rd rb aB dB B p K W.drew := h.next (Below.drew (Below.refl _ _))
theorem DRd.row (h : DRd w wr rd rb aB dB B p K W) : W.heap[rb]? = some (.cells #[.slice aB B.length dB, .int .i64 (p : Int)] 29 (0, 0)) := h.1.row (List.mem_cons_self ..)
theorem DRd.cells (h : DRd w wr rd rb aB dB B p K W) : W.cell? ⟨rb, 0, none⟩ = some (.slice aB B.length dB) ∧ W.cell? ⟨rb, 1, none⟩ = some (.int .i64 (p : Int)) ∧ W.frozen? ⟨rb, 1, none⟩ = false := by
 have r := h.row
 exact ⟨by rw [cell_of_row _ _ _ _ _ _ r]; rfl, by rw [cell_of_row _ _ _ _ _ _ r]; rfl, frozen_of_row W rb 1 _ _ r⟩
theorem DRd.bits (h : DRd w wr rd rb aB dB B p K W) : BlV W aB B := h.2.2.1 W (fun q hq => h.1.row (b := q.1) (o := q.2) (List.mem_cons_of_mem _ hq))
theorem DRd.set (h : DRd w wr rd rb aB dB B p K W) (p' : Nat) (hp : p' ≤ B.length) : DRd w wr rd rb aB dB B p' K (W.setCell ⟨rb, 1, none⟩ (.int .i64 (p' : Int))) :=
 ⟨h.1.store (j := 1) (.int .i64 (p' : Int)) h.2.1, h.2.1, h.2.2.1, hp, h.2.2.2.2⟩
end
theorem BlV.cut {w : World} {g o dB : Nat} {B : Bits} {p n : Nat} (h : BlV w (some ⟨g, o, none⟩) B) (hd : B.length ≤ dB) : BlV w (if dB = p then some ⟨g, o, none⟩ else some ⟨g, o + p, none⟩) ((B.drop p).take n) := fun k hk => by
 rw [List.length_take, List.length_drop] at hk
 obtain ⟨g', o', e, h2, h3⟩ := h (p + k) (by omega)
 cases e
 refine ⟨g, o + p, if_neg (by omega), h2, ?_⟩
 rw [Nat.add_assoc, h3, List.getElem_take, List.getElem_drop]
/-- what Take answers -/
def tkR (B : Bits) (p n : Nat) : Nat × Nat × Nat := if p + n ≤ B.length then (num ((B.drop p).take n), 0, p + n) else (0, 4, p)
set_option maxRecDepth 100000 in
set_option maxHeartbeats 3200000 in
theorem DRd.take {w W : World} {wr : Option (Nat × Bits)} {rd : Option (Nat × ByteArray × Nat)} {rb : Nat} {aB : Option Addr} {dB : Nat} {B : Bits} {p : Nat} {K : List (Nat × Obj)} (h : DRd w wr rd rb aB dB B p K W) (n : Nat) (hn : n ≤ 64) :
  Calls Tryz.prog 105 #[.pointer (some ⟨rb, 0, none⟩), .int .i64 (n : Int)] W fun e w' => e = .returned (.tuple #[.int .u64 ((tkR B p n).1 : Int), .int .i64 ((tkR B p n).2.1 : Int)]) ∧ DRd w wr rd rb aB dB B (tkR B p n).2.2 K w' := by
 have H := Lib.hid h
 obtain ⟨-, -, -, hp, hd, hb9, hnone⟩ := h
 have RC := Lib.hid (fun W' (k : Below W.heap.size W W') => (⟨(H.out.next k).cells.1, (H.out.next k).cells.2.1, (H.out.next k).cells.2.2, k⟩ : W'.cell? ⟨rb, 0, none⟩ = some (.slice aB B.length dB) ∧ W'.cell? ⟨rb, 1, none⟩ = some (.int .i64 (p : Int)) ∧ W'.frozen? ⟨rb, 1, none⟩ = false ∧ Below W.heap.size W W'))
 have KX := Lib.hid (fun W' W2 (h : Below W.heap.size W W') (k : Below W'.heap.size W' W2) => h.trans (k.mono h.size))
 obtain ⟨c0, c1, -⟩ := RC.out W (Below.refl _ _)
 obtain ⟨N, hN⟩ : ∃ z, B.length = z := ⟨_, rfl⟩
 have i1 : ¬ (n : Int) < 0 := by omega
 have i2 : ¬ (64 : Int) < (n : Int) := by omega
 have w1 : IntKind.i64.wrap ((N : Int) - (p : Int)) = (N : Int) - (p : Int) := IntWalk.i64_in _ (by omega)
 by_cases hlt : p + n ≤ N
 ·have TK : Hid (tkR B p n = (num ((B.drop p).take n), 0, p + n)) := Lib.hid (by unfold tkR; rw [hN]; exact if_pos hlt)
  rw [TK.out]
  have i3 : ¬ (N : Int) - (p : Int) < (n : Int) := by omega
  obtain ⟨M, hM⟩ : ∃ z, p + n = z := ⟨_, rfl⟩
  have w2 : IntKind.i64.wrap ((p : Int) + (n : Int)) = (M : Int) := by rw [IntWalk.i64_in _ (by omega)]; omega
  have b1 : (0 : Int) ≤ (p : Int) := by omega
  have b2 : (p : Int) ≤ (M : Int) := by omega
  have b3 : (M : Int) ≤ (dB : Int) := by omega
  have hM3 : M ≤ dB := by omega
  have hpM : p ≤ M := by omega
  have ST : Hid (∀ W', Below W.heap.size W W' → DRd w wr rd rb aB dB B M K (W'.setCell ⟨rb, 1, none⟩ (.int .i64 (M : Int)))) := Lib.hid (fun W' k => (H.out.next k).set M (by omega))
  have NUM : Hid (∀ W' ao (_ : Below W.heap.size W W'), BlV W' ao ((B.drop p).take n) → Calls Tryz.prog 129 #[.slice ao (M - p) (dB - p)] W' fun e w' => e = .returned (.int .u64 (num ((B.drop p).take n) : Int)) ∧ Below W'.heap.size W' w') := Lib.hid (fun W' ao _ hb => by
   have h1 := Number_any W' ao (dB - p) ((B.drop p).take n) (by rw [List.length_take]; omega) hb
   rw [show ((B.drop p).take n).length = M - p by rw [List.length_take, List.length_drop]; omega] at h1
   exact h1)
  obtain ⟨v, hv⟩ : ∃ v, num ((B.drop p).take n) = v := ⟨_, rfl⟩
  rw [hv] at NUM ⊢
  rw [hN] at c0 RC
  have HH := Lib.hid (And.intro hlt (And.intro hM hN))
  rcases hnone with ⟨rfl, hd0⟩ | ⟨g, o, rfl⟩
  ·obtain ⟨rfl, rfl⟩ : p = 0 ∧ n = 0 := by omega
   obtain rfl : M = 0 := by omega
   obtain rfl : N = 0 := by omega
   subst hd0
   have NB := Lib.hid (fun W' (k : Below W.heap.size W W') => NUM.out W' none k (fun i hi => by rw [List.length_take] at hi; omega))
   have c1 : W.cell? ⟨rb, 1, none⟩ = some (.int .i64 0) := c1
   have e6 : IntKind.i64.wrap 0 = 0 := by decide
   clear hb9 hv hp hd hlt hM hN TK w1 w2 b1 b2 b3 i3 NUM
   have b1 : (0 : Int) ≤ 0 := Int.le_refl _
   have b2 : (0 : Int) ≤ ((0 : Nat) : Int) := Int.le_refl _
   have e7 : IntKind.i64.wrap (0 + 0) = 0 := by decide
   go_enter Tryz.func105, Tryz.ntmps105
   go_upto_region 3 with fail
   go_big_region
   go_wp2_with fail
   have K0 : Below W.heap.size W W.drew := Below.drew (Below.refl _ _)
   go_region_held3 (fun W' => W'.cell? ⟨rb, 0, none⟩ = some (.slice none 0 0) ∧ W'.cell? ⟨rb, 1, none⟩ = some (.int .i64 0) ∧ W'.frozen? ⟨rb, 1, none⟩ = false ∧ Below W.heap.size W W')
    (first | exact RC.out _ (by assumption) | exact RC.out _ (Below.drew (by assumption)))
    (first | (go_at_call 129; (with_reducible refine (NB.out _ (by first | assumption | exact Below.drew (by assumption))).mono ?_); rintro e w5 ⟨rfl, k5⟩; have k7 := (by first | exact KX.out _ _ (by assumption) k5 | exact KX.out _ _ (Below.drew (by assumption)) k5 : Below W.heap.size W w5)))
   obtain ⟨c0b, c1b, z1, -⟩ := RC.out w5 k7
   have F := Lib.hid (ST.out w5 k7)
   clear k5
   go_wp2_with fail
   go_ret2
   exact ⟨rfl, F.out⟩
  ·have NB := Lib.hid (fun W' (k : Below W.heap.size W W') => NUM.out W' (if dB = p then some ⟨g, o, none⟩ else some ⟨g, o + p, none⟩) k ((H.out.next k).bits.cut hd))
   obtain ⟨ao, hao⟩ : ∃ z, (if dB = p then some (⟨g, o, none⟩ : Addr) else some ⟨g, o + p, none⟩) = z := ⟨_, rfl⟩
   rw [hao] at NB
   clear hb9 hv hp hd hlt hM hN TK NUM
   go_enter Tryz.func105, Tryz.ntmps105
   go_upto_region 3 with fail
   go_big_region
   go_wp2_with fail
   have K0 : Below W.heap.size W W.drew := Below.drew (Below.refl _ _)
   go_region_held3 (fun W' => W'.cell? ⟨rb, 0, none⟩ = some (.slice (some ⟨g, o, none⟩) N dB) ∧ W'.cell? ⟨rb, 1, none⟩ = some (.int .i64 (p : Int)) ∧ W'.frozen? ⟨rb, 1, none⟩ = false ∧ Below W.heap.size W W')
    (first | exact RC.out _ (by assumption) | exact RC.out _ (Below.drew (by assumption)))
    (first | (go_at_call 129; (with_reducible refine (NB.out _ (by first | assumption | exact Below.drew (by assumption))).mono ?_); rintro e w5 ⟨rfl, k5⟩; have k7 := (by first | exact KX.out _ _ (by assumption) k5 | exact KX.out _ _ (Below.drew (by assumption)) k5 : Below W.heap.size W w5)))
   obtain ⟨c0b, c1b, z1, -⟩ := RC.out w5 k7
   have F := Lib.hid (ST.out w5 k7)
   clear k5
   go_wp2_with fail
   go_ret2
   exact ⟨rfl, by rw [HH.out.2.1]; exact F.out⟩
 ·have TK : Hid (tkR B p n = (0, 4, p)) := Lib.hid (by unfold tkR; rw [hN]; exact if_neg hlt)
  rw [TK.out]
  have i3 : (N : Int) - (p : Int) < (n : Int) := by omega
  rw [hN] at c0
  clear hnone hb9
  go_enter Tryz.func105, Tryz.ntmps105
  go_upto_region 3 with fail
  go_big_region
  go_wp2_with fail
  go_ret2
  exact ⟨rfl, H.out.drew⟩
end Go.Proofs.YtflnpcgnenhogaaGreatDoor.ls
namespace Go.Proofs.YtflnpcgnenhogaaGreatDoor.ls
open Go.RowKit Go.Proofs.YtflnpcgnenhogaaGreatDoor.own Go.Proofs.YtflnpcgnenhogaaGreatDoor.bit

theorem drop_cons {B : Bits} {p : Nat} (h : p < B.length) : B.drop p = B[p] :: B.drop (p + 1) := List.drop_eq_getElem_cons h
theorem tkR_one (B : Bits) (p : Nat) (h : p < B.length) : tkR B p 1 = ((if B[p] then 1 else 0), 0, p + 1) := by
 unfold tkR
 rw [if_pos (by omega), drop_cons h]
 generalize B[p] = b
 cases b <;> rfl
set_option maxRecDepth 100000 in
theorem DRd.bit {w W : World} {wr : Option (Nat × Bits)} {rd : Option (Nat × ByteArray × Nat)} {rb : Nat} {aB : Option Addr} {dB : Nat} {B : Bits} {p : Nat} {K : List (Nat × Obj)} (h : DRd w wr rd rb aB dB B p K W) :
  Calls Tryz.prog 128 #[.pointer (some ⟨rb, 0, none⟩)] W fun e w' => (∀ hp : p < B.length, e = .returned (.tuple #[.bool B[p], .int .i64 0]) ∧ DRd w wr rd rb aB dB B (p + 1) K w') ∧ (¬ p < B.length → e = .returned (.tuple #[.bool false, .int .i64 4]) ∧ DRd w wr rd rb aB dB B p K w') := by
 have t := h.take 1 (by decide)
 rw [show ((1 : Nat) : Int) = 1 from rfl] at t
 have T := Lib.hid t
 clear t
 by_cases hp : p < B.length
 ·rw [tkR_one B p hp] at T
  generalize hb : B[p] = b at T
  have HB := Lib.hid hb
  have HP := Lib.hid hp
  clear h hb
  go_enter Tryz.func128, Tryz.ntmps128
  go_wp2_with fail
  with_reducible refine T.out.mono ?_
  rintro e w1 ⟨rfl, h1⟩
  have H1 := Lib.hid h1
  clear h1 T
  cases b
  ·go_wp2_with fail
   go_ret2
   exact ⟨fun h => ⟨by rw [HB.out]; rfl, H1.out⟩, fun h => absurd HP.out h⟩
  ·go_wp2_with fail
   go_ret2
   exact ⟨fun h => ⟨by rw [HB.out]; rfl, H1.out⟩, fun h => absurd HP.out h⟩
 ·have e : tkR B p 1 = (0, 4, p) := by unfold tkR; rw [if_neg (by omega)]
  rw [e] at T
  have HP := Lib.hid hp
  clear h hp e
  go_enter Tryz.func128, Tryz.ntmps128
  go_wp2_with fail
  with_reducible refine T.out.mono ?_
  rintro e w1 ⟨rfl, h1⟩
  have H1 := Lib.hid h1
  clear h1 T
  go_wp2_with fail
  go_ret2
  exact ⟨fun h => absurd h HP.out, fun _ => ⟨rfl, H1.out⟩⟩
/-- what zeros answers -/
def ZerP (w : World) (wr : Option (Nat × Bits)) (rd : Option (Nat × ByteArray × Nat)) (rb : Nat) (aB : Option Addr) (dB : Nat) (B : Bits) (p : Nat) (K : List (Nat × Obj)) (z : Option Nat) (e : Ending) (w' : World) : Prop :=
 ∃ p', DRd w wr rd rb aB dB B p' K w' ∧ (∀ n, z = some n → e = .returned (.tuple #[.int .i64 (n : Int), .bool true]) ∧ p' = p + n + 1) ∧ (z = none → e = .returned (.tuple #[.int .i64 0, .bool false]))
set_option maxRecDepth 100000 in
theorem DRd.zeros {w W : World} {wr : Option (Nat × Bits)} {rd : Option (Nat × ByteArray × Nat)} {rb : Nat} {aB : Option Addr} {dB : Nat} {B : Bits} {p : Nat} {K : List (Nat × Obj)} (h : DRd w wr rd rb aB dB B p K W) (most : Nat) (hm : most ≤ 100000) :
  Calls Tryz.prog 104 #[.pointer (some ⟨rb, 0, none⟩), .int .i64 (most : Int)] W (ZerP w wr rd rb aB dB B p K (zer (most + 1) (B.drop p))) := by
 have H := Lib.hid h
 clear h
 go_enter Tryz.func104, Tryz.ntmps104
 go_wp2_with fail
 trace_state
 go_loopw [6] (fun v wr' => ∃ i : Nat, v = .int .i64 (i : Int) ∧ i ≤ most + 1 ∧ DRd w wr rd rb aB dB B (p + i) K wr' ∧ zer (most + 1) (B.drop p) = (zer (most + 1 - i) (B.drop (p + i))).map (· + i)) (fun v _ => most + 1 - (intOf v).toNat)
 case atStart => exact ⟨0, rfl, Nat.zero_le _, H.out, by simp⟩
 case round =>
  obtain ⟨i, rfl, hi, hD, hz⟩ := hrel
  have BI := Lib.hid hD.bit
  have HD0 := Lib.hid hD
  have HZ := Lib.hid hz
  clear hD hz
  by_cases hle : i ≤ most
  ·go_wp2_with fail
   with_reducible refine BI.out.mono ?_
   rintro e w1 ⟨hy, hn⟩
   by_cases hp : p + i < B.length
   ·obtain ⟨rfl, hD⟩ := hy hp
    have ez := HZ.out
    rw [drop_cons hp, show most + 1 - i = (most - i) + 1 by omega, zer] at ez
    generalize (B[p + i]'hp) = b at ez ⊢
    have HD := Lib.hid hD
    have EZ := Lib.hid ez
    clear hy hn hD ez
    cases b
    ·go_wp2_with fail
     go_roundw
     case rel => exact ⟨i + 1, by go_num, by omega, HD.out, by
      rw [EZ.out, if_neg (by decide), show most + 1 - (i + 1) = most - i by omega, Option.map_map]
      exact congrArg (fun f => Option.map f _) (funext fun n => by show n + 1 + i = n + (i + 1); omega)⟩
     case measure => simp [intOf]; try omega
    ·go_wp2_with fail
     go_ret2
     refine ⟨_, HD.out, fun n hn => ?_, fun hn => ?_⟩
     ·rw [EZ.out, if_pos trivial] at hn
      have hn : 0 + i = n := Option.some.inj hn
      obtain rfl : n = i := by omega
      exact ⟨rfl, rfl⟩
     ·rw [EZ.out, if_pos trivial] at hn
      cases hn
   ·obtain ⟨rfl, hD⟩ := hn hp
    have ez : zer (most + 1) (B.drop p) = none := by
     rw [HZ.out, List.drop_eq_nil_of_le (by omega), show most + 1 - i = (most - i) + 1 by omega]
     rfl
    have HD := Lib.hid hD
    have EZ := Lib.hid ez
    clear hy hn hD ez
    go_wp2_with fail
    go_ret2
    exact ⟨_, HD.out, fun n hn => (by rw [EZ.out] at hn; cases hn), fun _ => rfl⟩
  ·have hi2 : i = most + 1 := by omega
   have EZ : Hid (zer (most + 1) (B.drop p) = none) := Lib.hid (by
    rw [HZ.out, show most + 1 - i = 0 by omega]
    rfl)
   have HD := Lib.hid HD0.out
   clear BI
   go_wp2_with fail
   go_ret2
   exact ⟨_, HD.out, fun n hn => (by rw [EZ.out] at hn; cases hn), fun _ => rfl⟩
end Go.Proofs.YtflnpcgnenhogaaGreatDoor.ls
namespace Go.Proofs.YtflnpcgnenhogaaGreatDoor.ls
open Go.RowKit Go.Proofs.YtflnpcgnenhogaaGreatDoor.own Go.Proofs.YtflnpcgnenhogaaGreatDoor.bit

/-- what short and read answer -/
def NumP (w : World) (wr : Option (Nat × Bits)) (rd : Option (Nat × ByteArray × Nat)) (rb : Nat) (aB : Option Addr) (dB : Nat) (B : Bits) (p : Nat) (K : List (Nat × Obj)) (z : Option (Nat × Nat)) (e : Ending) (w' : World) : Prop :=
 ∃ p', DRd w wr rd rb aB dB B p' K w' ∧ (∀ v n, z = some (v, n) → e = .returned (.tuple #[.int .u64 (v : Int), .bool true]) ∧ p' = p + n) ∧ (z = none → ∃ v : Int, e = .returned (.tuple #[.int .u64 v, .bool false]))
theorem NumP.no {w w' : World} {wr : Option (Nat × Bits)} {rd : Option (Nat × ByteArray × Nat)} {rb : Nat} {aB : Option Addr} {dB : Nat} {B : Bits} {p p' : Nat} {K : List (Nat × Obj)} {z : Option (Nat × Nat)} (h : DRd w wr rd rb aB dB B p' K w') (hz : z = none) (v : Int) : NumP w wr rd rb aB dB B p K z (.returned (.tuple #[.int .u64 v, .bool false])) w' :=
 ⟨p', h, fun v n e => (by rw [hz] at e; cases e), fun _ => ⟨v, rfl⟩⟩
theorem NumP.yes {w w' : World} {wr : Option (Nat × Bits)} {rd : Option (Nat × ByteArray × Nat)} {rb : Nat} {aB : Option Addr} {dB : Nat} {B : Bits} {p : Nat} {K : List (Nat × Obj)} {z : Option (Nat × Nat)} {v n : Nat} (h : DRd w wr rd rb aB dB B (p + n) K w') (hz : z = some (v, n)) : NumP w wr rd rb aB dB B p K z (.returned (.tuple #[.int .u64 (v : Int), .bool true])) w' :=
 ⟨p + n, h, fun v' n' e => (by rw [hz] at e; cases e; exact ⟨rfl, rfl⟩), fun e => (by rw [hz] at e; cases e)⟩
set_option maxRecDepth 100000 in
set_option maxHeartbeats 3200000 in
theorem DRd.short {w W : World} {wr : Option (Nat × Bits)} {rd : Option (Nat × ByteArray × Nat)} {rb : Nat} {aB : Option Addr} {dB : Nat} {B : Bits} {p : Nat} {K : List (Nat × Obj)} (h : DRd w wr rd rb aB dB B p K W) (k : Nat) (hk : 1 ≤ k) (hc : clog k ≤ 62) :
  Calls Tryz.prog 106 #[.pointer (some ⟨rb, 0, none⟩), .int .u64 (k : Int)] W (NumP w wr rd rb aB dB B p K (mread k (B.drop p))) := by
 have H := Lib.hid h
 have hpB : p ≤ B.length := h.2.2.2.1
 obtain ⟨S, hS⟩ : ∃ S, clog k = S := ⟨_, rfl⟩
 have HS : Hid (∀ s, s < S → 2 ^ s < k) := Lib.hid (fun s h => clog_below hk (by rw [hS]; exact h))
 have hP := @clog_le k
 have hM : mread k (B.drop p) = if S = 0 then some (0, 0) else if (B.drop p).length < S - 1 then none else if num ((B.drop p).take (S - 1)) < 2 ^ S - k then some (num ((B.drop p).take (S - 1)), S - 1) else if (B.drop p).length < S then none else some (num ((B.drop p).take S) - (2 ^ S - k), S) := by unfold mread; rw [hS]
 rw [List.length_drop] at hM
 rw [hS] at hP hc
 have hP2 : 2 ^ S ≤ 4611686018427387904 := by
  have : (2 : Nat) ^ S ≤ 2 ^ 62 := Nat.pow_le_pow_right (by decide) hc
  exact this
 have HM := Lib.hid hM
 have HP := Lib.hid hP
 have HP2 := Lib.hid hP2
 clear hS hM hP hP2 h
 go_enter Tryz.func106, Tryz.ntmps106
 go_upto_block 0 with fail
 go_cut [6] from 12 to 21 (fun v5 wc => v5 = .int .i64 (S : Int) ∧ wc = W)
 case first =>
  go_wp2_with fail
  go_loopw [6] (fun v5 wr => ∃ s : Nat, v5 = .int .i64 (s : Int) ∧ s ≤ S ∧ wr = W) (fun v5 _ => S - (intOf v5).toNat)
  case atStart => exact ⟨0, rfl, Nat.zero_le _, rfl⟩
  case round =>
   obtain ⟨s, rfl, hs, rfl⟩ := hrel
   have i1 : decide ((s : Int) < (63 : Int)) = true := decide_eq_true (by omega)
   obtain ⟨q, hq⟩ : ∃ q, 2 ^ s = q := ⟨_, rfl⟩
   have hq9 : q ≤ 4611686018427387904 := by
    rw [← hq]
    exact Nat.le_trans (Nat.pow_le_pow_right (by decide) hs) HP2.out
   have e3 := u64_pow s q hq (by omega)
   have Q1 : Hid (s < S → q < k) := Lib.hid (fun h => hq ▸ HS.out s h)
   have Q2 : Hid (s = S → k ≤ q) := Lib.hid (fun h => by rw [← hq, h]; exact HP.out)
   clear hq
   by_cases hlt : s < S
   ·have h3 := Q1.out hlt
    have i2 : decide ((q : Int) < (k : Int)) = true := decide_eq_true (by omega)
    have i2n : decide (q < k) = true := decide_eq_true h3
    clear h3
    go_wp2_with fail
    go_roundw
    case rel => exact ⟨s + 1, by go_num, by omega, by first | rfl | trivial⟩
    case measure => simp [intOf]; omega
   ·have hss : s = S := by omega
    have h3 := Q2.out hss
    have i2 : decide ((q : Int) < (k : Int)) = false := decide_eq_false (by omega)
    have i2n : decide (q < k) = false := decide_eq_false (by omega)
    subst hss
    clear h3
    go_wp2_with fail
    go_meet
    case rel => exact ⟨rfl, rfl⟩
 case rest =>
  obtain ⟨rfl, rfl⟩ := hcut
  obtain ⟨q, hq⟩ : ∃ q, 2 ^ S = q := ⟨_, rfl⟩
  rw [hq] at HM HP HP2
  have e3 := u64_pow S q hq (by have := HP2.out; omega)
  have hqk : k ≤ q := HP.out
  have w1 : IntKind.u64.wrap ((q : Int) - (k : Int)) = ((q - k : Nat) : Int) := by rw [IntWalk.u64_in _ (by have := HP2.out; omega)]; omega
  obtain ⟨M, hM⟩ : ∃ M, q - k = M := ⟨_, rfl⟩
  rw [hM] at HM w1
  have hM9 : M < 4611686018427387904 := by have := HP2.out; omega
  clear hq
  by_cases hS0 : S = 0
  ·subst hS0
   have EZ : Hid (mread k (B.drop p) = some (0, 0)) := Lib.hid (by rw [HM.out, if_pos rfl])
   go_wp2_with fail
   go_ret2
   exact NumP.yes (n := 0) H.out EZ.out
  ·have wS : IntKind.i64.wrap ((S : Int) - 1) = ((S - 1 : Nat) : Int) := by rw [IntWalk.i64_in _ (by omega)]; omega
   have i0 : ((S : Int) == 0) = false := beq_eq_false_iff_ne.2 (by omega)
   have HM1 := Lib.hid ((HM.out).trans (if_neg hS0))
   have TK := Lib.hid (H.out.take (S - 1) (by omega))
   clear HM
   by_cases h1 : p + (S - 1) ≤ B.length
   ·have et : tkR B p (S - 1) = (num ((B.drop p).take (S - 1)), 0, p + (S - 1)) := by unfold tkR; rw [if_pos h1]
    rw [et] at TK
    have HM2 := Lib.hid ((HM1.out).trans (if_neg (by omega)))
    obtain ⟨v, hv⟩ : ∃ v, num ((B.drop p).take (S - 1)) = v := ⟨_, rfl⟩
    have hv9 : v < 2305843009213693952 := by
     have h := num_lt ((B.drop p).take (S - 1))
     rw [hv] at h
     exact Nat.lt_of_lt_of_le h (Nat.le_trans (Nat.pow_le_pow_right (by decide) (by rw [List.length_take]; omega)) (by decide : 2 ^ 61 ≤ 2305843009213693952))
    have HV := Lib.hid hv
    rw [hv] at TK HM2
    clear hv et HM1
    go_wp2_with fail
    with_reducible refine TK.out.mono ?_
    rintro e w1 ⟨rfl, h2⟩
    have D1 := Lib.hid h2
    have BT := Lib.hid h2.bit
    clear h2 TK
    by_cases hvm : v < M
    ·have EZ : Hid (mread k (B.drop p) = some (v, S - 1)) := Lib.hid ((HM2.out).trans (if_pos hvm))
     have j1 : decide ((v : Int) < (M : Int)) = true := decide_eq_true (by omega)
     have j1n : decide (v < M) = true := decide_eq_true hvm
     clear BT
     go_wp2_with fail
     go_ret2
     exact NumP.yes D1.out EZ.out
    ·have HM3 := Lib.hid ((HM2.out).trans (if_neg hvm))
     have j1 : decide ((v : Int) < (M : Int)) = false := decide_eq_false (by omega)
     have j1n : decide (v < M) = false := decide_eq_false hvm
     have w2 : IntKind.u64.wrap (2 * (v : Int)) = 2 * (v : Int) := IntWalk.u64_in _ (by omega)
     have w3 : IntKind.u64.wrap (2 * (v : Int) + 1) = 2 * (v : Int) + 1 := IntWalk.u64_in _ (by omega)
     clear HM2 D1
     go_wp2_with fail
     with_reducible refine BT.out.mono ?_
     rintro e w2 ⟨hy, hn⟩
     have w4 : IntKind.u64.wrap (2 * (v : Int) - (M : Int)) = ((2 * v - M : Nat) : Int) := by rw [IntWalk.u64_in _ (by omega)]; omega
     have w5 : IntKind.u64.wrap (2 * (v : Int) + 1 - (M : Int)) = ((2 * v + 1 - M : Nat) : Int) := by rw [IntWalk.u64_in _ (by omega)]; omega
     by_cases hb : p + (S - 1) < B.length
     ·obtain ⟨rfl, hD⟩ := hy hb
      have hs := num_snoc (B.drop p) (S - 1) (by rw [List.length_drop]; omega)
      rw [List.getElem_drop, HV.out, show S - 1 + 1 = S by omega] at hs
      have em := (HM3.out).trans (if_neg (by omega))
      rw [hs] at em
      rw [show p + (S - 1) + 1 = p + S by omega] at hD
      generalize (B[p + (S - 1)]'hb) = b at em ⊢
      have D2 := Lib.hid hD
      have EM := Lib.hid em
      clear hy hn hD em hs HM3
      cases b
      ·go_wp2_with fail
       go_ret2
       exact NumP.yes D2.out EM.out
      ·go_wp2_with fail
       go_ret2
       exact NumP.yes D2.out EM.out
     ·obtain ⟨rfl, hD⟩ := hn hb
      have EM := Lib.hid ((HM3.out).trans (if_pos (by omega)))
      have D2 := Lib.hid hD
      clear hy hn hD HM3
      go_wp2_with fail
      go_ret2
      exact NumP.no D2.out EM.out _
   ·have et : tkR B p (S - 1) = (0, 4, p) := by unfold tkR; rw [if_neg h1]
    rw [et] at TK
    have EZ : Hid (mread k (B.drop p) = none) := Lib.hid ((HM1.out).trans (if_pos (by omega)))
    clear et HM1
    go_wp2_with fail
    with_reducible refine TK.out.mono ?_
    rintro e w1 ⟨rfl, h2⟩
    have D1 := Lib.hid h2
    clear h2 TK
    go_wp2_with fail
    go_ret2
    exact NumP.no D1.out EZ.out _
end Go.Proofs.YtflnpcgnenhogaaGreatDoor.ls
namespace Go.Proofs.YtflnpcgnenhogaaGreatDoor.ls
open Go.RowKit Go.Proofs.YtflnpcgnenhogaaGreatDoor.own Go.Proofs.YtflnpcgnenhogaaGreatDoor.bit

set_option maxRecDepth 100000 in
theorem dcheck_una (w : World) : Calls Tryz.prog 76 #[.agg #[.int .u8 0, .int .u64 0]] w fun e w' => e = .returned (.int .i64 0) ∧ Below w.heap.size w w' := by
 go_enter Tryz.func76, Tryz.ntmps76
 go_wp2_with fail
 go_ret
 exact ⟨rfl, (by repeat (first | exact Below.refl _ _ | refine below_drewN ?_ _ | refine Below.setCell ?_ (by simp; try omega) _ | refine Below.alloc ?_ (by simp; try omega) _))⟩
set_option maxRecDepth 100000 in
theorem dcheck_gam (w : World) : Calls Tryz.prog 76 #[.agg #[.int .u8 1, .int .u64 0]] w fun e w' => e = .returned (.int .i64 0) ∧ Below w.heap.size w w' := by
 go_enter Tryz.func76, Tryz.ntmps76
 go_wp2_with fail
 go_ret
 exact ⟨rfl, (by repeat (first | exact Below.refl _ _ | refine below_drewN ?_ _ | refine Below.setCell ?_ (by simp; try omega) _ | refine Below.alloc ?_ (by simp; try omega) _))⟩
set_option maxRecDepth 100000 in
theorem dcheck_zet (k : Nat) (h1 : 1 ≤ k) (h2 : k ≤ 16) (w : World) : Calls Tryz.prog 76 #[.agg #[.int .u8 3, .int .u64 (k : Int)]] w fun e w' => e = .returned (.int .i64 0) ∧ Below w.heap.size w w' := by
 have i1 : decide ((k : Int) < 1) = false := decide_eq_false (by omega)
 have i2 : decide ((16 : Int) < (k : Int)) = false := decide_eq_false (by omega)
 go_enter Tryz.func76, Tryz.ntmps76
 go_wp2_with fail
 go_ret
 exact ⟨rfl, (by repeat (first | exact Below.refl _ _ | refine below_drewN ?_ _ | refine Below.setCell ?_ (by simp; try omega) _ | refine Below.alloc ?_ (by simp; try omega) _))⟩
theorem dcheck_ok (c : Cd) (hc : c.ok) (w : World) : Calls Tryz.prog 76 #[cdV c] w fun e w' => e = .returned (.int .i64 0) ∧ Below w.heap.size w w' := by
 cases c with
 | una => exact dcheck_una w
 | gam => exact dcheck_gam w
 | zet k => exact dcheck_zet k hc.1 hc.2 w
set_option maxRecDepth 100000 in
theorem dmost_una (w : World) : Calls Tryz.prog 78 #[.agg #[.int .u8 0, .int .u64 0]] w fun e w' => e = .returned (.int .u64 65535) ∧ Below w.heap.size w w' := by
 have CK := Lib.hid (fun W => dcheck_una W)
 go_enter Tryz.func78, Tryz.ntmps78
 go_wp2_with fail
 have k1 : Below w.heap.size w (w.alloc (.cells #[.int .u8 0, .int .u64 0] 104)) := (Below.refl _ _).alloc (Nat.le_refl _) _
 have r1 := heap_alloc_new w (.cells #[.int .u8 0, .int .u64 0] 104)
 with_reducible refine (CK.out _).mono ?_
 rintro e w2 ⟨rfl, k2⟩
 have r2 := (k2.block _ (lt_of_block r1)).trans r1
 have K2 := Lib.hid (k1.trans (k2.mono k1.size))
 have c0 : w2.cell? ⟨w.heap.size, 0, none⟩ = some (.int .u8 0) := by rw [cell_of_row _ _ _ _ _ _ r2]; rfl
 clear k1 r1 k2 r2
 go_wp2_with fail
 go_ret
 exact ⟨rfl, K2.out⟩
set_option maxRecDepth 100000 in
theorem dmost_gam (w : World) : Calls Tryz.prog 78 #[.agg #[.int .u8 1, .int .u64 0]] w fun e w' => e = .returned (.int .u64 281474976710654) ∧ Below w.heap.size w w' := by
 have CK := Lib.hid (fun W => dcheck_gam W)
 go_enter Tryz.func78, Tryz.ntmps78
 go_wp2_with fail
 have k1 : Below w.heap.size w (w.alloc (.cells #[.int .u8 1, .int .u64 0] 104)) := (Below.refl _ _).alloc (Nat.le_refl _) _
 have r1 := heap_alloc_new w (.cells #[.int .u8 1, .int .u64 0] 104)
 with_reducible refine (CK.out _).mono ?_
 rintro e w2 ⟨rfl, k2⟩
 have r2 := (k2.block _ (lt_of_block r1)).trans r1
 have K2 := Lib.hid (k1.trans (k2.mono k1.size))
 have c0 : w2.cell? ⟨w.heap.size, 0, none⟩ = some (.int .u8 1) := by rw [cell_of_row _ _ _ _ _ _ r2]; rfl
 clear k1 r1 k2 r2
 go_wp2_with fail
 go_ret
 exact ⟨rfl, K2.out⟩
set_option maxRecDepth 100000 in
theorem dmost_zet (k : Nat) (h1 : 1 ≤ k) (h2 : k ≤ 16) (w : World) : Calls Tryz.prog 78 #[.agg #[.int .u8 3, .int .u64 (k : Int)]] w fun e w' => e = .returned (.int .u64 281474976710654) ∧ Below w.heap.size w w' := by
 have CK := Lib.hid (fun W => dcheck_zet k h1 h2 W)
 go_enter Tryz.func78, Tryz.ntmps78
 go_wp2_with fail
 have k1 : Below w.heap.size w (w.alloc (.cells #[.int .u8 3, .int .u64 (k : Int)] 104)) := (Below.refl _ _).alloc (Nat.le_refl _) _
 have r1 := heap_alloc_new w (.cells #[.int .u8 3, .int .u64 (k : Int)] 104)
 with_reducible refine (CK.out _).mono ?_
 rintro e w2 ⟨rfl, k2⟩
 have r2 := (k2.block _ (lt_of_block r1)).trans r1
 have K2 := Lib.hid (k1.trans (k2.mono k1.size))
 have c0 : w2.cell? ⟨w.heap.size, 0, none⟩ = some (.int .u8 3) := by rw [cell_of_row _ _ _ _ _ _ r2]; rfl
 clear k1 r1 k2 r2
 go_wp2_with fail
 go_ret
 exact ⟨rfl, K2.out⟩
theorem dmost_ok (c : Cd) (hc : c.ok) (w : World) : Calls Tryz.prog 78 #[cdV c] w fun e w' => e = .returned (.int .u64 (c.most : Int)) ∧ Below w.heap.size w w' := by
 cases c with
 | una => exact dmost_una w
 | gam => exact dmost_gam w
 | zet k => exact dmost_zet k hc.1 hc.2 w
end Go.Proofs.YtflnpcgnenhogaaGreatDoor.ls
namespace Go.Proofs.YtflnpcgnenhogaaGreatDoor.ls
open Go.RowKit Go.Proofs.YtflnpcgnenhogaaGreatDoor.own Go.Proofs.YtflnpcgnenhogaaGreatDoor.bit

section
variable {w W : World} {wr : Option (Nat × Bits)} {rd : Option (Nat × ByteArray × Nat)} {rb : Nat} {aB : Option Addr} {dB : Nat} {B : Bits} {p : Nat} {K K' : List (Nat × Obj)}
theorem BSt.more (h : BSt K aB B) (hs : ∀ q ∈ K, q ∈ K') : BSt K' aB B := fun W hW => h W (fun q hq => hW q (hs q hq))
theorem DRd.add (h : DRd w wr rd rb aB dB B p K W) (row : Array Value) (T : TypeId) : DRd w wr rd rb aB dB B p ((W.heap.size, .cells row T (0, 0)) :: K) (W.alloc (.cells row T)) := by
 have hr := lt_of_block h.row
 refine ⟨(h.1.add row T).sub (fun q hq => ?_), fun q hq => ?_, h.2.2.1.more (fun q hq => List.mem_cons_of_mem _ hq), h.2.2.2⟩
 ·simp only [List.mem_cons] at hq ⊢
  rcases hq with hq | hq | hq
  ·exact .inr (.inl hq)
  ·exact .inl hq
  ·exact .inr (.inr hq)
 ·rcases List.mem_cons.1 hq with rfl | hq
  ·show W.heap.size ≠ rb
   omega
  ·exact h.2.1 q hq
theorem DRd.has (h : DRd w wr rd rb aB dB B p K W) {q : Nat × Obj} (hq : q ∈ K) : W.heap[q.1]? = some q.2 := h.1.row (b := q.1) (o := q.2) (List.mem_cons_of_mem _ hq)
/-- blocks beside are left, the bits stand on -/
theorem DRd.less (h : DRd w wr rd rb aB dB B p K W) (hs : ∀ q ∈ K', q ∈ K) (hb : BSt K' aB B) : DRd w wr rd rb aB dB B p K' W :=
 ⟨h.1.sub (fun q hq => by
  rcases List.mem_cons.1 hq with hq | hq
  ·exact List.mem_cons.2 (.inl hq)
  ·exact List.mem_cons_of_mem _ (hs q hq)), fun q hq => h.2.1 q (hs q hq), hb, h.2.2.2⟩
end
set_option maxRecDepth 100000 in
set_option maxHeartbeats 3200000 in
theorem DRd.read_una {w W : World} {wr : Option (Nat × Bits)} {rd : Option (Nat × ByteArray × Nat)} {rb : Nat} {aB : Option Addr} {dB : Nat} {B : Bits} {p : Nat} {K : List (Nat × Obj)} (h : DRd w wr rd rb aB dB B p K W) :
  Calls Tryz.prog 77 #[.pointer (some ⟨rb, 0, none⟩), .agg #[.int .u8 0, .int .u64 0]] W (NumP w wr rd rb aB dB B p K (rd0 .una (B.drop p))) := by
 have H := Lib.hid (h.add #[.int .u8 0, .int .u64 0] 104)
 have hpB : p ≤ B.length := h.2.2.2.1
 obtain ⟨cb, hcb⟩ : ∃ z, W.heap.size = z := ⟨_, rfl⟩
 rw [hcb] at H
 have HB := Lib.hid h.2.2.1
 have z := H.out.zeros 65535 (by decide)
 rw [show ((65535 : Nat) : Int) = 65535 from rfl] at z
 have ZE := Lib.hid z
 clear h z
 go_enter Tryz.func77, Tryz.ntmps77
 go_wp2_with fail
 with_reducible refine ZE.out.mono ?_
 rintro e w2 ⟨p', hD, hs, hn⟩
 cases hz : zer (65535 + 1) (B.drop p) with
 | none =>
  obtain rfl := hn hz
  have EZ : Hid (rd0 .una (B.drop p) = none) := Lib.hid (by show (zer (65535 + 1) (B.drop p)).map _ = none; rw [hz]; rfl)
  have D2 := Lib.hid (hD.less (K' := K) (fun q hq => List.mem_cons_of_mem _ hq) HB.out)
  clear hs hn hz hD ZE
  go_wp2_with fail
  go_ret2
  exact NumP.no D2.out EZ.out _
 | some n =>
  obtain ⟨rfl, rfl⟩ := hs n hz
  have hb := zer_bound _ _ _ hz
  have EZ : Hid (rd0 .una (B.drop p) = some (n, n + 1)) := Lib.hid (by show (zer (65535 + 1) (B.drop p)).map _ = _; rw [hz]; rfl)
  have D2 := Lib.hid (hD.less (K' := K) (fun q hq => List.mem_cons_of_mem _ hq) HB.out)
  have un : IntKind.u64.wrap (n : Int) = (n : Int) := IntWalk.u64_in _ (by omega)
  clear hs hn hz hD ZE
  go_wp2_with fail
  go_ret2
  exact NumP.yes (n := n + 1) D2.out EZ.out
set_option maxRecDepth 100000 in
set_option maxHeartbeats 3200000 in
theorem DRd.read_gam {w W : World} {wr : Option (Nat × Bits)} {rd : Option (Nat × ByteArray × Nat)} {rb : Nat} {aB : Option Addr} {dB : Nat} {B : Bits} {p : Nat} {K : List (Nat × Obj)} (h : DRd w wr rd rb aB dB B p K W) :
  Calls Tryz.prog 77 #[.pointer (some ⟨rb, 0, none⟩), .agg #[.int .u8 1, .int .u64 0]] W (NumP w wr rd rb aB dB B p K (rd0 .gam (B.drop p))) := by
 have H := Lib.hid (h.add #[.int .u8 1, .int .u64 0] 104)
 have hpB : p ≤ B.length := h.2.2.2.1
 obtain ⟨cb, hcb⟩ : ∃ z, W.heap.size = z := ⟨_, rfl⟩
 rw [hcb] at H
 have HB := Lib.hid h.2.2.1
 have z := H.out.zeros 47 (by decide)
 rw [show ((47 : Nat) : Int) = 47 from rfl] at z
 have ZE := Lib.hid z
 clear h z
 go_enter Tryz.func77, Tryz.ntmps77
 go_wp2_with fail
 with_reducible refine ZE.out.mono ?_
 rintro e w2 ⟨p', hD, hs, hn⟩
 have r2 := hD.has (List.mem_cons_self ..)
 dsimp only at r2
 have c0 : w2.cell? ⟨cb, 0, none⟩ = some (.int .u8 1) := by rw [cell_of_row _ _ _ _ _ _ r2]; rfl
 clear r2
 cases hz : zer (47 + 1) (B.drop p) with
 | none =>
  obtain rfl := hn hz
  have EZ : Hid (rd0 .gam (B.drop p) = none) := Lib.hid (by show (zer (47 + 1) (B.drop p)).bind _ = none; rw [hz]; rfl)
  have D2 := Lib.hid (hD.less (K' := K) (fun q hq => List.mem_cons_of_mem _ hq) HB.out)
  clear hs hn hz hD ZE
  go_wp2_with fail
  go_ret2
  exact NumP.no D2.out EZ.out _
 | some b =>
  obtain ⟨rfl, rfl⟩ := hs b hz
  have hb := zer_bound _ _ _ hz
  have hb9 : b < 48 := hb.1
  have ER : rd0 .gam (B.drop p) = if ((B.drop p).drop (b + 1)).length < b then none else some (num (((B.drop p).drop (b + 1)).take b) + 2 ^ b - 1, b + 1 + b) := by show (zer (47 + 1) (B.drop p)).bind _ = _; rw [hz]; rfl
  rw [List.drop_drop, List.length_drop, show p + (b + 1) = p + b + 1 by omega] at ER
  have hpb : p + b + 1 ≤ B.length := hD.2.2.2.1
  obtain ⟨q, hq⟩ : ∃ q, 2 ^ b = q := ⟨_, rfl⟩
  have hq9 : q ≤ 140737488355328 := by rw [← hq]; exact Nat.le_trans (Nat.pow_le_pow_right (by decide) (by omega)) (by decide : 2 ^ 47 ≤ 140737488355328)
  have hq1 : 1 ≤ q := by rw [← hq]; exact Nat.pow_pos (by decide)
  have e3 := u64_pow b q hq (by omega)
  have TK := hD.take b (by omega)
  by_cases ht : p + b + 1 + b ≤ B.length
  ·have et : tkR B (p + b + 1) b = (num ((B.drop (p + b + 1)).take b), 0, p + b + 1 + b) := by unfold tkR; rw [if_pos ht]
   rw [et] at TK
   rw [if_neg (by omega), hq] at ER
   have hx := num_lt ((B.drop (p + b + 1)).take b)
   have hx2 : num ((B.drop (p + b + 1)).take b) < q := by
    rw [← hq]
    exact Nat.lt_of_lt_of_le hx (Nat.pow_le_pow_right (by decide) (by rw [List.length_take]; omega))
   obtain ⟨x, hxx⟩ : ∃ x, num ((B.drop (p + b + 1)).take b) = x := ⟨_, rfl⟩
   rw [hxx] at TK ER hx2
   have TK := Lib.hid TK
   have ER := Lib.hid ER
   have u1 : IntKind.u64.wrap ((x : Int) + (q : Int)) = (x : Int) + (q : Int) := IntWalk.u64_in _ (by omega)
   have u2 : IntKind.u64.wrap ((x : Int) + (q : Int) - 1) = ((x + q - 1 : Nat) : Int) := by rw [IntWalk.u64_in _ (by omega)]; omega
   clear hs hn hz hD ZE et hxx hx hq hb hpb ht
   go_wp2_with fail
   with_reducible refine TK.out.mono ?_
   rintro e w3 ⟨rfl, hD3⟩
   have D3 := Lib.hid (hD3.less (K' := K) (fun q hq => List.mem_cons_of_mem _ hq) HB.out)
   clear hD3 TK
   go_wp2_with fail
   go_ret2
   refine NumP.yes (n := b + 1 + b) ?_ ER.out
   rw [show p + (b + 1 + b) = p + b + 1 + b by omega]
   exact D3.out
  ·have et : tkR B (p + b + 1) b = (0, 4, p + b + 1) := by unfold tkR; rw [if_neg ht]
   rw [et] at TK
   rw [if_pos (by omega)] at ER
   have TK := Lib.hid TK
   have ER := Lib.hid ER
   clear hs hn hz hD ZE et hq hb hpb ht
   go_wp2_with fail
   with_reducible refine TK.out.mono ?_
   rintro e w3 ⟨rfl, hD3⟩
   have D3 := Lib.hid (hD3.less (K' := K) (fun q hq => List.mem_cons_of_mem _ hq) HB.out)
   clear hD3 TK
   go_wp2_with fail
   go_ret2
   exact NumP.no D3.out ER.out _
end Go.Proofs.YtflnpcgnenhogaaGreatDoor.ls
namespace Go.Proofs.YtflnpcgnenhogaaGreatDoor.ls
open Go.RowKit Go.Proofs.YtflnpcgnenhogaaGreatDoor.own Go.Proofs.YtflnpcgnenhogaaGreatDoor.bit

theorem zet_top {h k : Nat} (hk1 : 1 ≤ k) (hk2 : k ≤ 16) (hh : h ≤ 47 / k) : (h + 1) * k ≤ 60 := by
 have : k = 1 ∨ k = 2 ∨ k = 3 ∨ k = 4 ∨ k = 5 ∨ k = 6 ∨ k = 7 ∨ k = 8 ∨ k = 9 ∨ k = 10 ∨ k = 11 ∨ k = 12 ∨ k = 13 ∨ k = 14 ∨ k = 15 ∨ k = 16 := by omega
 rcases this with rfl | rfl | rfl | rfl | rfl | rfl | rfl | rfl | rfl | rfl | rfl | rfl | rfl | rfl | rfl | rfl <;> omega
set_option maxRecDepth 100000 in
set_option maxHeartbeats 3200000 in
theorem DRd.read_zet {w W : World} {wr : Option (Nat × Bits)} {rd : Option (Nat × ByteArray × Nat)} {rb : Nat} {aB : Option Addr} {dB : Nat} {B : Bits} {p : Nat} {K : List (Nat × Obj)} (h : DRd w wr rd rb aB dB B p K W) (k : Nat) (hk1 : 1 ≤ k) (hk2 : k ≤ 16) :
  Calls Tryz.prog 77 #[.pointer (some ⟨rb, 0, none⟩), .agg #[.int .u8 3, .int .u64 (k : Int)]] W (NumP w wr rd rb aB dB B p K (rd0 (.zet k) (B.drop p))) := by
 have H := Lib.hid (h.add #[.int .u8 3, .int .u64 (k : Int)] 104)
 obtain ⟨cb, hcb⟩ : ∃ z, W.heap.size = z := ⟨_, rfl⟩
 rw [hcb] at H
 have HB := Lib.hid h.2.2.1
 obtain ⟨t, ht⟩ : ∃ t, 47 / k = t := ⟨_, rfl⟩
 have ht9 : t ≤ 47 := by rw [← ht]; exact Nat.div_le_self _ _
 have ZE := Lib.hid (H.out.zeros t (by omega))
 have TOP := Lib.hid (fun (h : Nat) (hh : h ≤ t) => zet_top hk1 hk2 (by rw [ht]; exact hh))
 have d1 : (47 : Int).tdiv (k : Int) = (t : Int) := by rw [Int.tdiv_eq_ediv_of_nonneg (by omega), ← ht]; simp
 have d2 : (47 : Int) / (k : Int) = (t : Int) := by rw [← ht]; simp
 have wk : IntKind.i64.wrap (k : Int) = (k : Int) := IntWalk.i64_in _ (by omega)
 have wt : IntKind.i64.wrap (t : Int) = (t : Int) := IntWalk.i64_in _ (by omega)
 have i1 : ((k : Int) == 0) = false := beq_eq_false_iff_ne.2 (by omega)
 have ET : Hid (∀ B : Bits, rd0 (.zet k) B = (zer (t + 1) B).bind fun h => (mread (2 ^ ((h + 1) * k) - 2 ^ (h * k)) (B.drop (h + 1))).map fun q => (q.1 + 2 ^ (h * k) - 1, h + 1 + q.2)) := Lib.hid (fun B => by rw [← ht]; rfl)
 clear h ht
 go_enter Tryz.func77, Tryz.ntmps77
 go_wp2_with fail
 with_reducible refine ZE.out.mono ?_
 rintro e w2 ⟨p', hD, hs, hn⟩
 have r2 := hD.has (List.mem_cons_self ..)
 dsimp only at r2
 have c0 : w2.cell? ⟨cb, 0, none⟩ = some (.int .u8 3) := by rw [cell_of_row _ _ _ _ _ _ r2]; rfl
 have c1 : w2.cell? ⟨cb, 1, none⟩ = some (.int .u64 (k : Int)) := by rw [cell_of_row _ _ _ _ _ _ r2]; rfl
 clear r2
 cases hz : zer (t + 1) (B.drop p) with
 | none =>
  obtain rfl := hn hz
  have EZ : Hid (rd0 (.zet k) (B.drop p) = none) := Lib.hid (by rw [ET.out, hz]; rfl)
  have D2 := Lib.hid (hD.less (K' := K) (fun q hq => List.mem_cons_of_mem _ hq) HB.out)
  clear hs hn hz hD ZE
  go_wp2_with fail
  go_ret2
  exact NumP.no D2.out EZ.out _
 | some h =>
  obtain ⟨rfl, rfl⟩ := hs h hz
  have hb := zer_bound _ _ _ hz
  have htop := TOP.out h (by omega)
  have ER : rd0 (.zet k) (B.drop p) = (mread (2 ^ ((h + 1) * k) - 2 ^ (h * k)) ((B.drop p).drop (h + 1))).map fun q => (q.1 + 2 ^ (h * k) - 1, h + 1 + q.2) := by rw [ET.out, hz]; rfl
  rw [List.drop_drop, show p + (h + 1) = p + h + 1 by omega] at ER
  obtain ⟨e1, he1⟩ : ∃ e, h * k = e := ⟨_, rfl⟩
  obtain ⟨e2, he2⟩ : ∃ e, (h + 1) * k = e := ⟨_, rfl⟩
  have hlt : e1 < e2 := by rw [← he1, ← he2, Nat.add_mul]; omega
  rw [he1, he2] at ER
  rw [he2] at htop
  have m1 : IntKind.i64.wrap ((h : Int) * (k : Int)) = (e1 : Int) := by rw [show (h : Int) * (k : Int) = (e1 : Int) by rw [← he1]; simp]; exact IntWalk.i64_in _ (by omega)
  have wh : IntKind.i64.wrap ((h : Int) + 1) = (h : Int) + 1 := IntWalk.i64_in _ (by omega)
  have m2 : IntKind.i64.wrap (((h : Int) + 1) * (k : Int)) = (e2 : Int) := by rw [show ((h : Int) + 1) * (k : Int) = (e2 : Int) by rw [← he2]; simp]; exact IntWalk.i64_in _ (by omega)
  obtain ⟨q1, hq1⟩ : ∃ q, 2 ^ e1 = q := ⟨_, rfl⟩
  obtain ⟨q2, hq2⟩ : ∃ q, 2 ^ e2 = q := ⟨_, rfl⟩
  have hqq : q1 < q2 := by rw [← hq1, ← hq2]; exact Nat.pow_lt_pow_right (by decide) hlt
  have hq9 : q2 ≤ 1152921504606846976 := by rw [← hq2]; exact Nat.le_trans (Nat.pow_le_pow_right (by decide) htop) (by decide : 2 ^ 60 ≤ 1152921504606846976)
  have hq0 : 1 ≤ q1 := by rw [← hq1]; exact Nat.pow_pos (by decide)
  have u1 := u64_pow e1 q1 hq1 (by omega)
  have u2 := u64_pow e2 q2 hq2 (by omega)
  have n1 : min e1 64 = e1 := Nat.min_eq_left (by omega)
  have n2 : min e2 64 = e2 := Nat.min_eq_left (by omega)
  have us : IntKind.u64.wrap ((q2 : Int) - (q1 : Int)) = ((q2 - q1 : Nat) : Int) := by rw [IntWalk.u64_in _ (by omega)]; omega
  rw [hq1, hq2] at ER
  have hc : clog (q2 - q1) ≤ 62 := Nat.le_trans (clog_pow (k := q2 - q1) (b := 60) (by rw [show (2 : Nat) ^ 60 = 1152921504606846976 from by decide]; omega)) (by decide)
  have SH := Lib.hid (hD.short (q2 - q1) (by omega) hc)
  have ER := Lib.hid ER
  clear hs hn hz hD ZE hq1 hq2 he1 he2 hb hc htop
  go_wp2_with fail
  with_reducible refine SH.out.mono ?_
  rintro e w3 ⟨p3, hD3, hs3, hn3⟩
  have D3 := Lib.hid (hD3.less (K' := K) (fun q hq => List.mem_cons_of_mem _ hq) HB.out)
  cases hm : mread (q2 - q1) (B.drop (p + h + 1)) with
  | none =>
   obtain ⟨v, rfl⟩ := hn3 hm
   have EZ : Hid (rd0 (.zet k) (B.drop p) = none) := Lib.hid (by rw [ER.out, hm]; rfl)
   clear hs3 hn3 hm hD3 SH
   go_wp2_with fail
   go_ret2
   exact NumP.no D3.out EZ.out _
  | some s =>
   obtain ⟨x, n⟩ := s
   obtain ⟨rfl, rfl⟩ := hs3 x n hm
   have EZ : Hid (rd0 (.zet k) (B.drop p) = some (x + q1 - 1, h + 1 + n)) := Lib.hid (by rw [ER.out, hm]; rfl)
   have hx : x ≤ 1152921504606846976 := by
    have := (mread_bound (by omega) hm).1
    omega
   have v1 : IntKind.u64.wrap ((x : Int) + (q1 : Int)) = (x : Int) + (q1 : Int) := IntWalk.u64_in _ (by omega)
   have v2 : IntKind.u64.wrap ((x : Int) + (q1 : Int) - 1) = ((x + q1 - 1 : Nat) : Int) := by rw [IntWalk.u64_in _ (by omega)]; omega
   clear hs3 hn3 hm hD3 SH
   go_wp2_with fail
   go_ret2
   refine NumP.yes (n := h + 1 + n) ?_ EZ.out
   rw [show p + (h + 1 + n) = p + h + 1 + n by omega]
   exact D3.out
end Go.Proofs.YtflnpcgnenhogaaGreatDoor.ls
namespace Go.Proofs.YtflnpcgnenhogaaGreatDoor.ls
open Go.RowKit Go.Proofs.YtflnpcgnenhogaaGreatDoor.own Go.Proofs.YtflnpcgnenhogaaGreatDoor.bit

theorem DRd.read0 {w W : World} {wr : Option (Nat × Bits)} {rd : Option (Nat × ByteArray × Nat)} {rb : Nat} {aB : Option Addr} {dB : Nat} {B : Bits} {p : Nat} {K : List (Nat × Obj)} (h : DRd w wr rd rb aB dB B p K W) (c : Cd) (hc : c.ok) :
  Calls Tryz.prog 77 #[.pointer (some ⟨rb, 0, none⟩), cdV c] W (NumP w wr rd rb aB dB B p K (rd0 c (B.drop p))) := by
 cases c with
 | una => exact h.read_una
 | gam => exact h.read_gam
 | zet k => exact h.read_zet k hc.1 hc.2
/-- what Read answers -/
def ReadD (w : World) (wr : Option (Nat × Bits)) (rd : Option (Nat × ByteArray × Nat)) (rb : Nat) (aB : Option Addr) (dB : Nat) (B : Bits) (p : Nat) (K : List (Nat × Obj)) (z : Option (Nat × Nat)) (e : Ending) (w' : World) : Prop :=
 (∀ v n, z = some (v, n) → e = .returned (.tuple #[.int .u64 (v : Int), .int .i64 0]) ∧ DRd w wr rd rb aB dB B (p + n) K w') ∧ (z = none → e = .returned (.tuple #[.int .u64 0, .int .i64 4]) ∧ DRd w wr rd rb aB dB B p K w')
theorem cd_most_lt (c : Cd) : c.most < 9223372036854775808 := by
 cases c with
 | una => decide
 | gam => decide
 | zet k => show 281474976710654 < 9223372036854775808; decide
set_option maxRecDepth 100000 in
set_option maxHeartbeats 3200000 in
theorem DRd.read {w W : World} {wr : Option (Nat × Bits)} {rd : Option (Nat × ByteArray × Nat)} {rb : Nat} {aB : Option Addr} {dB : Nat} {B : Bits} {p : Nat} {K : List (Nat × Obj)} (h : DRd w wr rd rb aB dB B p K W) (c : Cd) (hc : c.ok) :
  Calls Tryz.prog 48 #[.pointer (some ⟨rb, 0, none⟩), cdV c] W (ReadD w wr rd rb aB dB B p K (ls.rd c (B.drop p))) := by
 have HB := Lib.hid h.2.2.1
 have HPB := Lib.hid h.2.2.2.1
 have CK := Lib.hid (fun W => dcheck_ok c hc W)
 have MO := Lib.hid (fun W => dmost_ok c hc W)
 have RM := Lib.hid (rd_rd0 c hc (B.drop p))
 have hml := cd_most_lt c
 obtain ⟨most, hmost⟩ : ∃ m, c.most = m := ⟨_, rfl⟩
 rw [hmost] at MO RM hml
 obtain ⟨kd, kk, hcd⟩ := cdV_shape c
 have RD := Lib.hid (fun K' W' (h : DRd w wr rd rb aB dB B p K' W') => h.read0 c hc)
 rw [hcd] at CK MO RD ⊢
 have H := Lib.hid (h.add #[.int .u8 kd, .int .u64 kk] 104)
 obtain ⟨cb, hcb⟩ : ∃ z, W.heap.size = z := ⟨_, rfl⟩
 rw [hcb] at H
 have CC : Hid (∀ W' p', DRd w wr rd rb aB dB B p' ((cb, .cells #[.int .u8 kd, .int .u64 kk] 104 (0, 0)) :: K) W' → W'.cell? ⟨cb, 0, none⟩ = some (.int .u8 kd) ∧ W'.cell? ⟨cb, 1, none⟩ = some (.int .u64 kk)) := Lib.hid (fun W' p' h => by
  have r := h.has (List.mem_cons_self ..)
  exact ⟨by rw [cell_of_row _ _ _ _ _ _ r]; rfl, by rw [cell_of_row _ _ _ _ _ _ r]; rfl⟩)
 clear h hmost hcd
 go_enter Tryz.func48, Tryz.ntmps48
 go_wp2_with fail
 with_reducible refine (CK.out _).mono ?_
 rintro e w1 ⟨rfl, k1⟩
 have D1 := Lib.hid (H.out.next k1)
 obtain ⟨-, c1, -⟩ := D1.out.cells
 obtain ⟨q0, q1⟩ := CC.out _ _ D1.out
 clear k1 CK
 go_wp2_with fail
 with_reducible refine (RD.out _ _ D1.out).mono ?_
 rintro e w2 ⟨p2, hD2, hs, hn⟩
 obtain ⟨q0, q1⟩ := CC.out _ _ hD2
 obtain ⟨-, d1, z1⟩ := hD2.cells
 have SB := Lib.hid (fun W' (k : Below w2.heap.size w2 W') => (((hD2.next k).set p HPB.out).less (K' := K) (fun q hq => List.mem_cons_of_mem _ hq) HB.out))
 cases hz : rd0 c (B.drop p) with
 | none =>
  obtain ⟨v, rfl⟩ := hn hz
  have ER : Hid (ls.rd c (B.drop p) = none) := Lib.hid (by rw [RM.out, hz]; rfl)
  have S2 := Lib.hid (SB.out _ (Below.refl _ _))
  clear hs hn hz hD2 RD D1
  go_wp2_with fail
  go_ret2
  exact ⟨fun v' n' e => (by rw [ER.out] at e; cases e), fun _ => ⟨rfl, S2.out⟩⟩
 | some s =>
  obtain ⟨v, n⟩ := s
  obtain ⟨rfl, rfl⟩ := hs v n hz
  have HD2 := Lib.hid hD2
  by_cases hv : v ≤ most
  ·have ER : Hid (ls.rd c (B.drop p) = some (v, n)) := Lib.hid (by rw [RM.out, hz]; exact if_pos hv)
   clear hs hn hz hD2 RD D1
   go_wp2_with fail
   with_reducible refine (MO.out _).mono ?_
   rintro e w3 ⟨rfl, k3⟩
   have D3 := Lib.hid ((HD2.out.next k3).less (K' := K) (fun q hq => List.mem_cons_of_mem _ hq) HB.out)
   have i1 : decide ((most : Int) < (v : Int)) = false := decide_eq_false (by omega)
   have i1n : decide (most < v) = false := decide_eq_false (by omega)
   clear k3
   go_wp2_with fail
   go_ret2
   exact ⟨fun v' n' e => (by rw [ER.out] at e; cases e; exact ⟨rfl, D3.out⟩), fun e => (by rw [ER.out] at e; cases e)⟩
  ·have ER : Hid (ls.rd c (B.drop p) = none) := Lib.hid (by rw [RM.out, hz]; exact if_neg hv)
   clear hs hn hz hD2 RD D1
   go_wp2_with fail
   with_reducible refine (MO.out _).mono ?_
   rintro e w3 ⟨rfl, k3⟩
   obtain ⟨-, d3, z3⟩ := (HD2.out.next k3).cells
   have S3 := Lib.hid (SB.out _ k3)
   have i1 : decide ((most : Int) < (v : Int)) = true := decide_eq_true (by omega)
   have i1n : decide (most < v) = true := decide_eq_true (by omega)
   clear k3 d1 z1
   go_wp2_with fail
   go_ret2
   exact ⟨fun v' n' e => (by rw [ER.out] at e; cases e), fun _ => ⟨rfl, S3.out⟩⟩
end Go.Proofs.YtflnpcgnenhogaaGreatDoor.ls
namespace Go.Proofs.YtflnpcgnenhogaaGreatDoor.ls
open Go.RowKit Go.Proofs.YtflnpcgnenhogaaGreatDoor.own Go.Proofs.YtflnpcgnenhogaaGreatDoor.bit

/-- a taker, its reader, blocks beside -/
def DTk (w : World) (wr : Option (Nat × Bits)) (rd : Option (Nat × ByteArray × Nat)) (rb : Nat) (aB : Option Addr) (dB : Nat) (B : Bits) (tb p : Nat) (bad : Bool) (K : List (Nat × Obj)) (W : World) : Prop :=
 DRd w wr rd rb aB dB B p ((tb, .cells #[.pointer (some ⟨rb, 0, none⟩), .bool bad] 155 (0, 0)) :: K) W ∧ (∀ q ∈ K, q.1 ≠ tb) ∧ BSt K aB B
section
variable {w W W2 : World} {wr : Option (Nat × Bits)} {rd : Option (Nat × ByteArray × Nat)} {rb : Nat} {aB : Option Addr} {dB : Nat} {B : Bits} {tb p : Nat} {bad : Bool} {K K' : List (Nat × Obj)}
theorem DTk.next (h : DTk w wr rd rb aB dB B tb p bad K W) (k : Below W.heap.size W W2) : DTk w wr rd rb aB dB B tb p bad K W2 := ⟨h.1.next k, h.2⟩
theorem DTk.drew (h : DTk w wr rd rb aB dB B tb p bad K W) : DTk w wr rd rb aB dB B tb p bad K W.drew := h.next (Below.drew (Below.refl _ _))
theorem DTk.row (h : DTk w wr rd rb aB dB B tb p bad K W) : W.heap[tb]? = some (.cells #[.pointer (some ⟨rb, 0, none⟩), .bool bad] 155 (0, 0)) := h.1.has (q := (tb, _)) (List.mem_cons_self ..)
theorem DTk.cells (h : DTk w wr rd rb aB dB B tb p bad K W) : W.cell? ⟨tb, 0, none⟩ = some (.pointer (some ⟨rb, 0, none⟩)) ∧ W.cell? ⟨tb, 1, none⟩ = some (.bool bad) ∧ ∀ j, W.frozen? ⟨tb, j, none⟩ = false := by
 have r := h.row
 exact ⟨by rw [cell_of_row _ _ _ _ _ _ r]; rfl, by rw [cell_of_row _ _ _ _ _ _ r]; rfl, fun j => frozen_of_row W tb j _ _ r⟩
theorem DTk.below (h : DTk w wr rd rb aB dB B tb p bad K W) : Below w.heap.size w W := h.1.1.below
theorem DTk.has (h : DTk w wr rd rb aB dB B tb p bad K W) {q : Nat × Obj} (hq : q ∈ K) : W.heap[q.1]? = some q.2 := h.1.has (List.mem_cons_of_mem _ hq)
theorem DTk.ne (h : DTk w wr rd rb aB dB B tb p bad K W) : tb ≠ rb := h.1.2.1 (tb, _) (List.mem_cons_self ..)
/-- the mark is set -/
theorem DTk.mark (h : DTk w wr rd rb aB dB B tb p bad K W) (b : Bool) : DTk w wr rd rb aB dB B tb p b K (W.setCell ⟨tb, 1, none⟩ (.bool b)) := by
 have hne := h.ne
 obtain ⟨⟨h1, h2, h3, h4⟩, h5, h6⟩ := h
 have f := (h1.sub (ks' := (tb, .cells #[.pointer (some ⟨rb, 0, none⟩), .bool bad] 155 (0, 0)) :: (rb, .cells #[.slice aB B.length dB, .int .i64 (p : Int)] 29 (0, 0)) :: K) (fun q hq => by
  simp only [List.mem_cons] at hq ⊢
  rcases hq with hq | hq | hq
  ·exact .inr (.inl hq)
  ·exact .inl hq
  ·exact .inr (.inr hq))).store (j := 1) (.bool b) (fun q hq => by
  rcases List.mem_cons.1 hq with rfl | hq
  ·exact fun e => hne e.symm
  ·exact h5 q hq)
 refine ⟨⟨f.sub (fun q hq => ?_), fun q hq => ?_, h6.more (fun q hq => List.mem_cons_of_mem _ hq), h4⟩, h5, h6⟩
 ·simp only [List.mem_cons] at hq ⊢
  rcases hq with hq | hq | hq
  ·exact .inr (.inl hq)
  ·exact .inl hq
  ·exact .inr (.inr hq)
 ·rcases List.mem_cons.1 hq with rfl | hq
  ·exact hne
  ·exact h2 q (List.mem_cons_of_mem _ hq)
theorem DTk.add (h : DTk w wr rd rb aB dB B tb p bad K W) (row : Array Value) (T : TypeId) : DTk w wr rd rb aB dB B tb p bad ((W.heap.size, .cells row T (0, 0)) :: K) (W.alloc (.cells row T)) := by
 have ht := lt_of_block h.row
 obtain ⟨h1, h5, h6⟩ := h
 refine ⟨(h1.add row T).less (fun q hq => ?_) (h6.more (fun q hq => List.mem_cons_of_mem _ (List.mem_cons_of_mem _ hq))), fun q hq => ?_, h6.more (fun q hq => List.mem_cons_of_mem _ hq)⟩
 ·simp only [List.mem_cons] at hq ⊢
  rcases hq with hq | hq | hq
  ·exact .inr (.inl hq)
  ·exact .inl hq
  ·exact .inr (.inr hq)
 ·rcases List.mem_cons.1 hq with rfl | hq
  ·show W.heap.size ≠ tb
   omega
  ·exact h5 q hq
theorem DTk.less (h : DTk w wr rd rb aB dB B tb p bad K W) (hs : ∀ q ∈ K', q ∈ K) (hb : BSt K' aB B) : DTk w wr rd rb aB dB B tb p bad K' W :=
 ⟨h.1.less (fun q hq => by
  rcases List.mem_cons.1 hq with hq | hq
  ·exact List.mem_cons.2 (.inl hq)
  ·exact List.mem_cons_of_mem _ (hs q hq)) (hb.more (fun q hq => List.mem_cons_of_mem _ hq)), fun q hq => h.2.1 q (hs q hq), hb⟩
end
/-- what a take says -/
def TakeD (o : Option (Nat × Nat)) (most : Nat) (bad : Bool) (v p' : Nat) (bad' : Bool) : Prop :=
 (∀ q, o = some q → bad = false → v = q.1 ∧ p' = q.2 ∧ bad' = false) ∧ (bad = true ∨ o = none → v = 0 ∧ bad' = true) ∧ v ≤ most
def DTakeP (w : World) (wr : Option (Nat × Bits)) (rd : Option (Nat × ByteArray × Nat)) (rb : Nat) (aB : Option Addr) (dB : Nat) (B : Bits) (tb : Nat) (K : List (Nat × Obj)) (z : Option (Nat × Nat)) (most : Nat) (bad : Bool) (e : Ending) (w' : World) : Prop :=
 ∃ (v p' : Nat) (bad' : Bool), e = .returned (.int .i64 (v : Int)) ∧ TakeD z most bad v p' bad' ∧ DTk w wr rd rb aB dB B tb p' bad' K w'
set_option maxRecDepth 100000 in
set_option maxHeartbeats 3200000 in
theorem DTk.take {w W : World} {wr : Option (Nat × Bits)} {rd : Option (Nat × ByteArray × Nat)} {rb : Nat} {aB : Option Addr} {dB : Nat} {B : Bits} {tb p : Nat} {bad : Bool} {K : List (Nat × Obj)} (h : DTk w wr rd rb aB dB B tb p bad K W) (c : Cd) (hc : c.ok) (most : Nat) (hm : most ≤ 1000000) :
  Calls Tryz.prog 87 #[.pointer (some ⟨tb, 0, none⟩), cdV c, .int .i64 (most : Int)] W (DTakeP w wr rd rb aB dB B tb K (tk B c most p) most bad) := by
 have HB6 := Lib.hid h.2.2
 have HB := Lib.hid (fun v n (h : ls.rd c (B.drop p) = some (v, n)) => rd_bound c hc h)
 obtain ⟨o, ho⟩ : ∃ o, ls.rd c (B.drop p) = o := ⟨_, rfl⟩
 have TE : Hid (tk B c most p = o.bind fun q => if q.1 ≤ most then some (q.1, p + q.2) else none) := Lib.hid (by unfold tk; rw [ho])
 have hmost := cd_most_lt c
 obtain ⟨cm, hcm⟩ : ∃ m, c.most = m := ⟨_, rfl⟩
 rw [hcm] at HB hmost
 rw [ho] at HB
 obtain ⟨kd, kk, hcd⟩ := cdV_shape c
 have RD := Lib.hid (fun K' W' (h : DTk w wr rd rb aB dB B tb p bad K' W') => h.1.read c hc)
 rw [hcd, ho] at RD
 rw [hcd]
 have H := Lib.hid (h.add #[.int .u8 kd, .int .u64 kk] 104)
 obtain ⟨cb, hcb⟩ : ∃ z, W.heap.size = z := ⟨_, rfl⟩
 rw [hcb] at H
 obtain ⟨K2, hK2⟩ : ∃ K', (cb, Obj.cells #[.int .u8 kd, .int .u64 kk] 104 (0, 0)) :: K = K' := ⟨_, rfl⟩
 have CC : Hid (∀ W' p' b', DTk w wr rd rb aB dB B tb p' b' K2 W' → W'.cell? ⟨cb, 0, none⟩ = some (.int .u8 kd) ∧ W'.cell? ⟨cb, 1, none⟩ = some (.int .u64 kk) ∧ W'.cell? ⟨tb, 0, none⟩ = some (.pointer (some ⟨rb, 0, none⟩))) := Lib.hid (fun W' p' b' h => by
  have r : W'.heap[cb]? = some (.cells #[.int .u8 kd, .int .u64 kk] 104 (0, 0)) := h.has (q := (cb, _)) (by rw [← hK2]; exact List.mem_cons_self ..)
  exact ⟨by rw [cell_of_row _ _ _ _ _ _ r]; rfl, by rw [cell_of_row _ _ _ _ _ _ r]; rfl, h.cells.1⟩)
 have LS : Hid (∀ W' p' b', DTk w wr rd rb aB dB B tb p' b' K2 W' → DTk w wr rd rb aB dB B tb p' b' K W') := Lib.hid (fun W' p' b' h => h.less (fun q hq => by rw [← hK2]; exact List.mem_cons_of_mem _ hq) HB6.out)
 have TT : Hid (∀ W' p', DRd w wr rd rb aB dB B p' ((tb, .cells #[.pointer (some ⟨rb, 0, none⟩), .bool bad] 155 (0, 0)) :: K2) W' → DTk w wr rd rb aB dB B tb p' bad K2 W') := Lib.hid (by
  rw [hK2] at H
  exact fun W' p' h => ⟨h, H.out.2⟩)
 rw [hK2] at H
 have um : IntKind.u64.wrap (most : Int) = (most : Int) := IntWalk.u64_in _ (by omega)
 obtain ⟨c0, c1, c2⟩ := CC.out _ _ _ H.out
 clear h hcd hcm ho hK2
 go_enter Tryz.func87, Tryz.ntmps87
 go_upto_region 1 with fail
 generalize World.alloc W _ = W0 at H c0 c1 c2 ⊢
 have NOX : Hid (∀ W' p', DTk w wr rd rb aB dB B tb p' true K2 W' → (bad = true ∨ tk B c most p = none) → DTakeP w wr rd rb aB dB B tb K (tk B c most p) most bad (.returned (.int .i64 0)) W') := Lib.hid (fun W' p' h hno => ⟨0, p', true, rfl, ⟨fun q hq hb => (by
  rcases hno with h | h
  ·rw [hb] at h; cases h
  ·rw [hq] at h; cases h), fun _ => ⟨rfl, rfl⟩, Nat.zero_le _⟩, LS.out _ _ _ h⟩)
 cases o with
 | none =>
  have TN : Hid (tk B c most p = none) := Lib.hid (by rw [TE.out]; rfl)
  have RN : Hid (∀ W', DTk w wr rd rb aB dB B tb p bad K2 W' → Calls Tryz.prog 48 #[.pointer (some ⟨rb, 0, none⟩), .agg #[.int .u8 kd, .int .u64 kk]] W' fun e w' => e = .returned (.tuple #[.int .u64 0, .int .i64 4]) ∧ DTk w wr rd rb aB dB B tb p bad K2 w') := Lib.hid (fun W' h => (RD.out _ _ h).mono (fun e w' h => ⟨(h.2 rfl).1, TT.out _ _ (h.2 rfl).2⟩))
  go_region_held3 (fun w' => w'.cell? ⟨cb, 0, none⟩ = some (.int .u8 kd) ∧ w'.cell? ⟨cb, 1, none⟩ = some (.int .u64 kk) ∧ w'.cell? ⟨tb, 0, none⟩ = some (.pointer (some ⟨rb, 0, none⟩)))
   (first | exact CC.out _ _ _ H.out | exact CC.out _ _ _ H.out.drew | exact CC.out _ _ _ (by assumption) | exact CC.out _ _ _ (DTk.drew (by assumption)))
   (first | (go_at_call 48; refine (RN.out _ (by first | exact H.out.drew | exact H.out)).mono ?_; rintro e w1 ⟨rfl, h3⟩))
  have D3 := Lib.hid (h3.mark true)
  obtain ⟨-, z1, z⟩ := h3.cells
  have z2 := z 1
  have FIN := Lib.hid (NOX.out _ _ D3.out (.inr TN.out))
  clear h3 z RD RN H c0 c1 c2
  go_wp2_with fail
  go_ret
  exact FIN.out
 | some q =>
  obtain ⟨v, n⟩ := q
  have hv9 := (HB.out v n rfl).1
  have wv : IntKind.i64.wrap (v : Int) = (v : Int) := IntWalk.i64_in _ (by omega)
  have RN : Hid (∀ W', DTk w wr rd rb aB dB B tb p bad K2 W' → Calls Tryz.prog 48 #[.pointer (some ⟨rb, 0, none⟩), .agg #[.int .u8 kd, .int .u64 kk]] W' fun e w' => e = .returned (.tuple #[.int .u64 (v : Int), .int .i64 0]) ∧ DTk w wr rd rb aB dB B tb (p + n) bad K2 w') := Lib.hid (fun W' h => (RD.out _ _ h).mono (fun e w' h => ⟨(h.1 v n rfl).1, TT.out _ _ (h.1 v n rfl).2⟩))
  go_region_held3 (fun w' => w'.cell? ⟨cb, 0, none⟩ = some (.int .u8 kd) ∧ w'.cell? ⟨cb, 1, none⟩ = some (.int .u64 kk) ∧ w'.cell? ⟨tb, 0, none⟩ = some (.pointer (some ⟨rb, 0, none⟩)))
   (first | exact CC.out _ _ _ H.out | exact CC.out _ _ _ H.out.drew | exact CC.out _ _ _ (by assumption) | exact CC.out _ _ _ (DTk.drew (by assumption)))
   (first | (go_at_call 48; refine (RN.out _ (by first | exact H.out.drew | exact H.out)).mono ?_; rintro e w1 ⟨rfl, h3⟩))
  obtain ⟨-, z1, z⟩ := h3.cells
  have z2 := z 1
  by_cases hv : v ≤ most
  ·have TS : Hid (tk B c most p = some (v, p + n)) := Lib.hid (by rw [TE.out]; exact if_pos hv)
   have i1 : decide ((most : Int) < (v : Int)) = false := decide_eq_false (by omega)
   have i1n : decide (most < v) = false := decide_eq_false (by omega)
   have D3 := Lib.hid h3
   clear h3 z RD RN H c0 c1 c2 HB
   cases bad with
   | true =>
    have FIN := Lib.hid (NOX.out _ _ D3.out (.inl rfl))
    go_wp2_with fail
    exact bodyPost_ret (v := .int .i64 0) (by simp [results, Tryz.results87, go_sem]) rfl FIN.out
   | false =>
    have FIN : Hid (DTakeP w wr rd rb aB dB B tb K (tk B c most p) most false (.returned (.int .i64 (v : Int))) w1) := Lib.hid ⟨v, p + n, false, rfl, ⟨fun q hq _ => (by rw [TS.out] at hq; cases hq; exact ⟨rfl, rfl, rfl⟩), fun h => (by
     rcases h with h | h
     ·cases h
     ·rw [TS.out] at h; cases h), hv⟩, LS.out _ _ _ D3.out⟩
    go_wp2_with fail
    go_ret
    exact FIN.out
  ·have TN : Hid (tk B c most p = none) := Lib.hid (by rw [TE.out]; exact if_neg hv)
   have i1 : decide ((most : Int) < (v : Int)) = true := decide_eq_true (by omega)
   have i1n : decide (most < v) = true := decide_eq_true (by omega)
   have D3 := Lib.hid (h3.mark true)
   have FIN := Lib.hid (NOX.out _ _ D3.out (.inr TN.out))
   clear h3 z RD RN H c0 c1 c2 HB
   go_wp2_with fail
   go_ret
   exact FIN.out
end Go.Proofs.YtflnpcgnenhogaaGreatDoor.ls
namespace Go.Proofs.YtflnpcgnenhogaaGreatDoor.ls
open Go.RowKit Go.Proofs.YtflnpcgnenhogaaGreatDoor.own Go.Proofs.YtflnpcgnenhogaaGreatDoor.bit

structure Rw where
 T : TypeId
 v : Value
 xs : List Value
def Rw.owned (r : Rw) (W : World) : Prop := W.ownsRow 0 r.T 1 r.v r.xs.length r.xs
def Rws (w : World) (wr : Option (Nat × Bits)) (rd : Option (Nat × ByteArray × Nat)) : List Rw → List (Nat × Obj) → World → Prop
 | [], K, W => FS w wr rd K W
 | r :: rs, K, W => ∃ ka, KA ka r.v ∧ r.owned W ∧ Off K r.v ∧ Rws w wr rd rs (ka ++ K) W
section
variable {w W W2 : World} {wr wr' : Option (Nat × Bits)} {rd rd' : Option (Nat × ByteArray × Nat)} {rs : List Rw} {K K' : List (Nat × Obj)}
theorem Rws.sub : ∀ {rs : List Rw} {K K' : List (Nat × Obj)}, Rws w wr rd rs K W → (∀ p ∈ K', p ∈ K) → Rws w wr rd rs K' W
 | [], _, _, h, k => FS.sub h k
 | _ :: _, _, _, ⟨ka, h1, h2, h3, h4⟩, k => ⟨ka, h1, h2, h3.sub k, h4.sub (fun p hp => by
  rcases List.mem_append.1 hp with hp | hp
  ·exact List.mem_append_left _ hp
  ·exact List.mem_append_right _ (k p hp))⟩
theorem Rws.fs : ∀ {rs : List Rw} {K : List (Nat × Obj)}, Rws w wr rd rs K W → FS w wr rd K W
 | [], _, h => h
 | _ :: _, _, ⟨_, _, _, _, h4⟩ => (Rws.fs h4).sub (fun _ hp => List.mem_append_right _ hp)
theorem Rws.has (h : Rws w wr rd rs K W) {p : Nat × Obj} (hp : p ∈ K) : W.heap[p.1]? = some p.2 := h.fs.row (b := p.1) (o := p.2) hp
theorem Rws.below (h : Rws w wr rd rs K W) : Below w.heap.size w W := h.fs.below
theorem KA.off {ka kb : List (Nat × Obj)} {v u : Value} (ha : KA ka v) (hb : KA kb u) (h : Off ka u) : Off kb v := fun p hp e => by
 obtain ⟨o, ho⟩ := ha.1 p.1 e.symm
 exact h _ ho (hb.2 p hp)
theorem Rws.swap {a b : Rw} (h : Rws w wr rd (a :: b :: rs) K W) : Rws w wr rd (b :: a :: rs) K W := by
 obtain ⟨ka, h1, h2, h3, kb, h4, h5, h6, h7⟩ := h
 refine ⟨kb, h4, h5, h6.sub (fun p hp => List.mem_append_right _ hp), ka, h1, h2, (h1.off h4 (h6.sub (fun p hp => List.mem_append_left _ hp))).app h3, h7.sub (fun p hp => ?_)⟩
 simp only [List.mem_append] at hp ⊢
 rcases hp with hp | hp | hp
 ·exact .inr (.inl hp)
 ·exact .inl hp
 ·exact .inr (.inr hp)
theorem Rw.same {r : Rw} {ka Ka Kb : List (Nat × Obj)} (h : r.owned W) (hk : KA ka r.v) (f : FS w wr rd (ka ++ Ka) W) (f2 : FS w wr' rd' (ka ++ Kb) W2) : r.owned W2 :=
 own_same2 h (fun g hg => by
  obtain ⟨o, ho⟩ := hk.1 g hg
  rw [f.row (b := g) (o := o) (List.mem_append_left _ ho), f2.row (b := g) (o := o) (List.mem_append_left _ ho)])
/-- the state takes a step, the rows stay -/
theorem Rws.step : ∀ {rs : List Rw} {K K' : List (Nat × Obj)}, Rws w wr rd rs K W → (∀ Kx, FS w wr rd (Kx ++ K) W → FS w wr' rd' (Kx ++ K') W2) → (∀ p ∈ K', (∃ o, (p.1, o) ∈ K) ∨ W.heap.size ≤ p.1) → Rws w wr' rd' rs K' W2
 | [], _, _, h, hs, _ => hs [] h
 | r :: rs, K, K', ⟨ka, h1, h2, h3, h4⟩, hs, hk => by
  have f := h4.fs
  have g := Rws.step (K' := ka ++ K') h4 (fun Kx hx => by
   rw [← List.append_assoc] at hx ⊢
   exact hs _ hx) (fun p hp => by
   rcases List.mem_append.1 hp with hp | hp
   ·exact .inl ⟨p.2, List.mem_append_left _ hp⟩
   ·rcases hk p hp with ⟨o, ho⟩ | hl
    ·exact .inl ⟨o, List.mem_append_right _ ho⟩
    ·exact .inr hl)
  refine ⟨ka, h1, Rw.same h2 h1 f g.fs, fun p hp e => ?_, g⟩
  rcases hk p hp with ⟨o, ho⟩ | hl
  ·exact h3 _ ho e
  ·obtain ⟨o, ho⟩ := h1.1 p.1 e.symm
   have := lt_of_block (f.row (b := p.1) (o := o) (List.mem_append_left _ ho))
   omega
theorem Rws.next (h : Rws w wr rd rs K W) (k : Below W.heap.size W W2) : Rws w wr rd rs K W2 := h.step (fun _ hx => hx.next k) (fun p hp => .inl ⟨p.2, hp⟩)
theorem Rws.more {js : List (Nat × Obj)} (h : Rws w wr rd rs K W) (k : Below W.heap.size W W2) (hj : ∀ p ∈ js, W.heap.size ≤ p.1 ∧ W2.heap[p.1]? = some p.2) : Rws w wr rd rs (js ++ K) W2 :=
 h.step (fun Kx hx => (hx.more k hj).sub (fun p hp => by
  simp only [List.mem_append] at hp ⊢
  rcases hp with hp | hp | hp
  ·exact .inr (.inl hp)
  ·exact .inl hp
  ·exact .inr (.inr hp))) (fun p hp => (List.mem_append.1 hp).elim (fun hp => .inr (hj p hp).1) (fun hp => .inl ⟨p.2, hp⟩))
/-- a block beside is turned -/
theorem Rws.turn {b : Nat} {o o' : Obj} (h : Rws w wr rd rs ((b, o) :: K) W) (k : Keeps W W2 (fun x => x = b)) (hb : W2.heap[b]? = some o') (hne : ∀ p ∈ K, p.1 ≠ b) : Rws w wr rd rs ((b, o') :: K) W2 := by
 have key : ∀ {rs : List Rw} {K : List (Nat × Obj)}, Rws w wr rd rs ((b, o) :: K) W → (∀ p ∈ K, p.1 ≠ b) → Rws w wr rd rs ((b, o') :: K) W2 := by
  intro rs
  induction rs with
  | nil => exact fun h hne => FS.turn h k hb hne
  | cons r rs ih =>
   rintro K ⟨ka, h1, h2, h3, h4⟩ hne
   have hnk : ∀ p ∈ ka, p.1 ≠ b := fun p hp e => h3 (b, o) (List.mem_cons_self ..) (by rw [← e]; exact h1.2 p hp)
   have g := ih (h4.sub (K' := (b, o) :: (ka ++ K)) (fun p hp => by
    simp only [List.mem_cons, List.mem_append] at hp ⊢
    rcases hp with hp | hp | hp
    ·exact .inr (.inl hp)
    ·exact .inl hp
    ·exact .inr (.inr hp))) (fun p hp => (List.mem_append.1 hp).elim (hnk p) (hne p))
   have g2 := g.sub (K' := ka ++ ((b, o') :: K)) (fun p hp => by
    simp only [List.mem_cons, List.mem_append] at hp ⊢
    rcases hp with hp | hp | hp
    ·exact .inr (.inl hp)
    ·exact .inl hp
    ·exact .inr (.inr hp))
   refine ⟨ka, h1, Rw.same h2 h1 h4.fs g2.fs, fun p hp e => ?_, g2⟩
   rcases List.mem_cons.1 hp with rfl | hp
   ·exact h3 (b, o) (List.mem_cons_self ..) e
   ·exact h3 p (List.mem_cons_of_mem _ hp) e
 exact key h hne
theorem Rws.store {b j : Nat} {row : Array Value} {T : TypeId} (v : Value) (h : Rws w wr rd rs ((b, .cells row T (0, 0)) :: K) W) (hne : ∀ p ∈ K, p.1 ≠ b) : Rws w wr rd rs ((b, .cells (row.setIfInBounds j v) T (0, 0)) :: K) (W.setCell ⟨b, j, none⟩ v) :=
 h.turn ((Keeps.refl W (fun x => x = b)).setCell (p := ⟨b, j, none⟩) (.inl rfl) v) (heap_setCell_same W b j _ _ v (h.has (p := (b, .cells row T (0, 0))) (List.mem_cons_self ..))) hne
/-- the first row grows -/
theorem Rws.pushIn {ka : List (Nat × Obj)} {v v' : Value} {T : TypeId} {n : Nat} {xs : List Value} (ha : KA ka v) (hg : W.grownBy W2 v.ownBlock) (own : W2.ownsRow 0 T 1 v' n xs) (hw : v'.ownBlock = v.ownBlock ∨ v'.ownBlock = some W.heap.size) :
  ∀ {rs : List Rw} {K : List (Nat × Obj)}, Rws w wr rd rs (ka ++ K) W → Off K v → ∃ k2, KA k2 v' ∧ Off K v' ∧ Rws w wr rd rs (k2 ++ K) W2
 | [], _, h, ho => by
  obtain ⟨k2, h1, h2, h3, _⟩ := FS.push h ha ho hg own hw
  exact ⟨k2, h1, h2, h3⟩
 | r :: rs, K, ⟨kr, h1, h2, h3, h4⟩, ho => by
  have mv : ∀ (x y z : List (Nat × Obj)), ∀ p ∈ y ++ (x ++ z), p ∈ x ++ (y ++ z) := fun x y z p hp => by
   simp only [List.mem_append] at hp ⊢
   rcases hp with hp | hp | hp
   ·exact .inr (.inl hp)
   ·exact .inl hp
   ·exact .inr (.inr hp)
  obtain ⟨k2, g1, g2, g3⟩ := Rws.pushIn ha hg own hw (h4.sub (mv kr ka K)) ((ha.off h1 (h3.sub (fun p hp => List.mem_append_left _ hp))).app ho)
  have g4 := g3.sub (mv k2 kr K)
  refine ⟨k2, g1, g2.sub (fun p hp => List.mem_append_right _ hp), kr, h1, Rw.same h2 h1 h4.fs g4.fs, ?_, g4⟩
  exact (h1.off g1 (g2.sub (fun p hp => List.mem_append_left _ hp))).app (h3.sub (fun p hp => List.mem_append_right _ hp))
theorem Rws.push {v v' : Value} {T : TypeId} {xs xs' : List Value} (h : Rws w wr rd (⟨T, v, xs⟩ :: rs) K W) (own : W2.ownsRow 0 T 1 v' xs'.length xs') (hg : W.grownBy W2 v.ownBlock) (hw : v'.ownBlock = v.ownBlock ∨ v'.ownBlock = some W.heap.size) : Rws w wr rd (⟨T, v', xs'⟩ :: rs) K W2 := by
 obtain ⟨ka, h1, _, h3, h4⟩ := h
 obtain ⟨k2, g1, g2, g3⟩ := Rws.pushIn h1 hg own hw h4 h3
 exact ⟨k2, g1, own, g2, g3⟩
theorem Rws.own {r : Rw} (h : Rws w wr rd (r :: rs) K W) : r.owned W := by
 obtain ⟨ka, h1, h2, h3⟩ := h
 exact h2
theorem Rws.lift {T : TypeId} (h : Rws w wr rd rs K W) : Rws w wr rd (⟨T, .slice none 0 0, []⟩ :: rs) K W := ⟨[], KA.none, World.ownsRow_nil _ _ _ _, Off.none _, h⟩
/-- a row that a call made -/
theorem Rws.fresh {v : Value} {T : TypeId} {xs : List Value} (h : Rws w wr rd rs K W) (k : Below W.heap.size W W2) (own : W2.ownsRow W.heap.size T 1 v xs.length xs) : Rws w wr rd (⟨T, v, xs⟩ :: rs) K W2 := by
 have own0 := own_base own (Nat.zero_le _)
 obtain ⟨k2, h1, h2, h3⟩ := own_ks own0
 have hge : ∀ p ∈ k2, W.heap.size ≤ p.1 := fun p hp => (own.lt p.1 (h2 p hp).symm).1
 refine ⟨k2, ⟨h1, h2⟩, own0, fun p hp e => ?_, h.more k (fun p hp => ⟨hge p hp, h3 p hp⟩)⟩
 have := (own.lt p.1 e.symm).1
 have := lt_of_block (h.has hp)
 omega
end
end Go.Proofs.YtflnpcgnenhogaaGreatDoor.ls
namespace Go.Proofs.YtflnpcgnenhogaaGreatDoor.ls
open Go.RowKit Go.Proofs.YtflnpcgnenhogaaGreatDoor.own Go.Proofs.YtflnpcgnenhogaaGreatDoor.bit

/-- a row of new bits, laid behind the bits so far -/
theorem LO.put {w0 W W2 W3 : World} {ks : List (Nat × Obj)} {out bs : Bits} {v v3 : Value} (h : LO w0 ks out v W) (k2 : Below W.heap.size W W2) (own3 : W3.ownsRow w0.heap.size 4 1 v3 (out.length + bs.length) (bls out ++ bls bs)) (hg : W2.grownBy W3 v.ownBlock) (hw : v3.ownBlock = v.ownBlock ∨ v3.ownBlock = some W2.heap.size) : LO w0 ks (out ++ bs) v3 W3 :=
 LO.grow (LG.next h k2) bs _ rfl own3 hg hw
theorem LO.own {w0 W W2 : World} {ks : List (Nat × Obj)} {out : Bits} {v : Value} (h : LO w0 ks out v W) (k2 : Below W.heap.size W W2) : W2.ownsRow w0.heap.size 4 1 v out.length (bls out) := (LG.next h k2).2.1
theorem LO.first {w0 W W2 : World} {ks : List (Nat × Obj)} {bs : Bits} {v v2 : Value} (h : LO w0 ks [] v W) (o2 : W2.ownsRow W.heap.size 4 1 v2 bs.length (bls bs)) (k2 : Below W.heap.size W W2) : LO w0 ks bs v2 W2 :=
 ⟨h.1.trans (k2.mono h.1.size), own_base o2 h.1.size, fun p hp => ⟨(k2.block _ (lt_of_block (h.2.2 p hp).1)).trans (h.2.2 p hp).1, fun e => absurd (o2.lt _ e.symm).1 (Nat.not_le_of_gt (lt_of_block (h.2.2 p hp).1))⟩⟩
/-- a row that a callee made stands beside, still -/
theorem LO.beside {w0 W W2 : World} {ks : List (Nat × Obj)} {out : Bits} {v vR : Value} {T : TypeId} {sz n : Nat} {xs : List Value} (h : LO w0 ks out v W) (k2 : Below W.heap.size W W2) (hR : W2.ownsRow W.heap.size T sz vR n xs) (hn : 0 < n) :
  ∃ g cap cur, vR = .slice (some ⟨g, 0, none⟩) n cap ∧ n ≤ cap ∧ LO w0 ((g, .cells cur T (0, 0)) :: ks) out v W2 ∧ ∀ W' : World, W'.heap[g]? = some (.cells cur T (0, 0)) → ∀ j u, xs[j]? = some u → W'.cell? ⟨g, j, none⟩ = some u := by
 obtain ⟨a0, cap0, e0, hcap⟩ := own_slice hR
 rcases hR.2 with ⟨_, h0⟩ | ⟨g, cap, cur, rfl, hb, hgg, _, _, _, htake⟩
 ·omega
 ·injection e0 with e1 e2 e3
  refine ⟨g, cap, cur, rfl, by rw [e3]; exact hcap, LG.with (LG.next h k2) hgg (fun e => ?_), fun W' hW j u hu => ?_⟩
  ·have := (h.2.1.lt _ e.symm).2
   omega
  ·rw [cell_of_row W' g j cur T (0, 0) hW]
   rw [← htake, List.getElem?_take] at hu
   split at hu
   ·simpa using hu
   ·cases hu
/-- the same of a row that may be empty: what stands beside grows, and reads it -/
theorem LO.besides {w0 W W2 : World} {ks : List (Nat × Obj)} {out : Bits} {v : Value} {a : Option Addr} {d : Nat} {T : TypeId} {sz n : Nat} {xs : List Value} (h : LO w0 ks out v W2) (hR : W2.ownsRow W.heap.size T sz (.slice a n d) n xs) (hne : ∀ g, a = some ⟨g, 0, none⟩ → some g ≠ v.ownBlock) :
  ∃ ks', (∀ p ∈ ks, p ∈ ks') ∧ LO w0 ks' out v W2 ∧ ∀ W' : World, (∀ p ∈ ks', W'.heap[p.1]? = some p.2) → ∀ j u, xs[j]? = some u → ∃ g, a = some ⟨g, 0, none⟩ ∧ W'.cell? ⟨g, j, none⟩ = some u := by
 rcases hR.2 with ⟨e0, h0⟩ | ⟨g, cap, cur, e0, hb, hgg, _, _, _, htake⟩
 ·refine ⟨ks, fun p hp => hp, h, fun W' _ j u hu => ?_⟩
  have hx := hR.1
  rw [h0, Nat.zero_mul] at hx
  rw [List.eq_nil_of_length_eq_zero hx] at hu
  cases hu
 ·injection e0 with e1 e2 e3
  subst e1
  refine ⟨_, fun p hp => List.mem_cons_of_mem _ hp, LG.with h hgg (hne g rfl), fun W' hW j u hu => ⟨g, rfl, ?_⟩⟩
  rw [cell_of_row W' g j cur T (0, 0) (hW _ (List.mem_cons_self ..))]
  rw [← htake, List.getElem?_take] at hu
  split at hu
  ·simpa using hu
  ·cases hu
theorem LO.low {w0 W : World} {ks : List (Nat × Obj)} {out : Bits} {v : Value} (h : LO w0 ks out v W) : Below w0.heap.size w0 W := h.1
theorem rnm_get : ∀ (k : Nat) (I : List Nat) (i : Nat) (h : i < I.length), (rnm k I)[i]? = some (I[i] - min (k + i) 1)
 | _, [], _, h => absurd h (Nat.not_lt_zero _)
 | k, n :: I, 0, _ => by unfold rnm; simp
 | k, n :: I, i + 1, h => by
  unfold rnm
  rw [List.getElem?_cons_succ, rnm_get (k + 1) I i (by simpa using h), List.getElem_cons_succ, show k + 1 + i = k + (i + 1) by omega]
theorem piV_get : ∀ (L : List (Nat × Nat)) (i : Nat) (h : i < L.length), (piV L)[i * 2]? = some (.int .u32 (L[i].1 : Int)) ∧ (piV L)[i * 2 + 1]? = some (.int .i64 (L[i].2 : Int))
 | q :: L, 0, _ => ⟨rfl, rfl⟩
 | q :: L, i + 1, h => by
  have := piV_get L i (by simpa using h)
  have e : piV (q :: L) = .int .u32 (q.1 : Int) :: .int .i64 (q.2 : Int) :: piV L := rfl
  rw [e, show (i + 1) * 2 = i * 2 + 1 + 1 by omega, List.getElem?_cons_succ, List.getElem?_cons_succ, List.getElem?_cons_succ, List.getElem?_cons_succ]
  exact this
theorem lnm_take (x itv : Nat) : ∀ (k : Nat) (e : Option Nat) (l : List (Nat × Nat)), lnm x itv e (l.take k) = (lnm x itv e l).take (2 * k)
 | 0, e, l => by rw [List.take_zero, Nat.mul_zero, List.take_zero]; cases e <;> rfl
 | k + 1, e, [] => by rw [List.take_nil, show lnm x itv e [] = [] by cases e <;> rfl, List.take_nil]
 | k + 1, e, (f, n) :: l => by rw [List.take_succ_cons, lnm_cons, lnm_cons, lnm_take x itv k, show 2 * (k + 1) = 2 * k + 1 + 1 by omega, List.take_succ_cons, List.take_succ_cons]
theorem znm_take (x : Nat) : ∀ (k : Nat) (e : Option Nat) (l : List Nat), znm x e (l.take k) = (znm x e l).take k
 | 0, e, l => by rw [List.take_zero, List.take_zero]; cases e <;> rfl
 | k + 1, none, [] => rfl
 | k + 1, some _, [] => rfl
 | k + 1, none, a :: l => by rw [List.take_succ_cons]; show _ :: znm x (some a) (l.take k) = (_ :: znm x (some a) l).take (k + 1); rw [znm_take x k, List.take_succ_cons]
 | k + 1, some _, a :: l => by rw [List.take_succ_cons]; show _ :: znm x (some a) (l.take k) = (_ :: znm x (some a) l).take (k + 1); rw [znm_take x k, List.take_succ_cons]
theorem gap_wrap (f g n v : Nat) (h1 : f < 65536) (h2 : g + n ≤ 65536) (h3 : f - (g + n - 1) - 2 = v) (h4 : g + n - 1 + 2 ≤ f ∧ 0 < n) : IntKind.i64.wrap (IntKind.i64.wrap (IntKind.i64.wrap (IntKind.i64.wrap (IntKind.i64.wrap (f : Int) - IntKind.i64.wrap (g : Int)) - (n : Int)) + 1) - 2) = (v : Int) := by
 obtain ⟨h4, h5⟩ := h4
 rw [i64_nat f (by omega), i64_nat g (by omega), i64_diff f g (by omega) (by omega), IntWalk.i64_in ((f : Int) - (g : Int) - (n : Int)) (by omega), IntWalk.i64_in ((f : Int) - (g : Int) - (n : Int) + 1) (by omega), IntWalk.i64_in _ (by omega)]
 omega
theorem rest_wrap (v u z : Nat) (h1 : v < 65536) (h2 : u < v) (h3 : v - u - 1 = z) : IntKind.u64.wrap (IntKind.u32.wrap (IntKind.u32.wrap ((v : Int) - (u : Int)) - 1)) = (z : Int) := by
 have e1 : IntKind.u32.wrap ((v : Int) - (u : Int)) = (v : Int) - (u : Int) := by rw [IntKind.wrap_u32]; omega
 have e2 : IntKind.u32.wrap ((v : Int) - (u : Int) - 1) = (z : Int) := by rw [IntKind.wrap_u32]; omega
 rw [e1, e2, IntWalk.u64_in _ (by omega)]
theorem LO.post {w0 W : World} {ks : List (Nat × Obj)} {out : Bits} {v : Value} (h : LO w0 ks out v W) : RowPost out w0 (.returned v) W := ⟨v, rfl, h.2.1, h.1⟩

/-- the bits so far, and the row of what is left growing beside -/
def LT (w0 : World) (ks : List (Nat × Obj)) (out : Bits) (v : Value) (L : List Nat) (u : Value) (W : World) : Prop :=
 LO w0 ks out v W ∧ W.ownsRow w0.heap.size 77 1 u L.length (u32V L) ∧ (∀ g, v.ownBlock = some g → u.ownBlock ≠ some g) ∧ ∀ p ∈ ks, some p.1 ≠ u.ownBlock
theorem LT.add1 {w0 W W2 : World} {ks : List (Nat × Obj)} {out : Bits} {v : Value} {L : List Nat} {u u' : Value} (h : LT w0 ks out v L u W) (x : Nat) (o : Obj) (own : W2.ownsRow w0.heap.size 77 1 u' (L.length + 1) (u32V L ++ [.int .u32 (x : Int)])) (hg : (W.alloc o).grownBy W2 u.ownBlock) (hw : u'.ownBlock = u.ownBlock ∨ u'.ownBlock = some (W.heap.size + 1)) : LT w0 ks out v (L ++ [x]) u' W2 := by
 obtain ⟨⟨h1, h2, h3⟩, h4, h5, h6⟩ := h
 have hs : (W.alloc o).heap.size = W.heap.size + 1 := by simp
 refine ⟨⟨(h1.alloc h1.size o).grown hg (by have := h1.size; omega) (fun k hk => (h4.lt k hk).1), (h2.alloc o).kept hg ?_, fun p hp => ?_⟩, ?_, fun g hgv => ?_, fun p hp => ?_⟩
 ·cases hv : v.ownBlock with
  | none => exact .inl rfl
  | some g => exact .inr (fun e => h5 g hv e.symm)
 ·have hlt := lt_of_block (h3 p hp).1
  exact ⟨(hg.block _ (by omega) (h6 p hp)).trans ((heap_alloc_old W o hlt).trans (h3 p hp).1), (h3 p hp).2⟩
 ·rw [List.length_append, u32V_append]; exact own
 ·rcases hw with e | e
  ·rw [e]; exact h5 g hgv
  ·rw [e]
   intro e2
   injection e2 with e2
   have := (h2.lt g hgv).2
   omega
 ·rcases hw with e | e
  ·rw [e]; exact h6 p hp
  ·rw [e]
   intro e2
   injection e2 with e2
   have := lt_of_block (h3 p hp).1
   omega
set_option maxRecDepth 100000 in
set_option maxHeartbeats 6400000 in
theorem dlaid_any (p : Pr) (x : Nat) (w : World) (a : Option Addr) (succ : List Nat) (cap : Nat) (b : Option Addr) (ref : List Nat) (capb r : Nat) (hc : succ.length ≤ cap) (_hcb : ref.length ≤ capb) (hm : MayN x succ ref r p) (hA : LV w a succ) (hB : LV w b ref) :
  Calls Tryz.prog 55 #[.int .i64 (x : Int), .slice a succ.length cap, .slice b ref.length capb, .int .i64 (r : Int), parV (p.win : Int) (p.itv : Int) (p.zet : Int)] w (RowPost (lay x succ ref r p) w) := by
 obtain ⟨i0, hi, hz0, hz1, hz2⟩ := info_parts Tryz.infoBool
 have LL := Lib.hid (lay_len hm)
 have MN := Lib.hid hm
 have GA := Lib.hid (fun v h W => gamma_any v h W)
 obtain ⟨⟨m1, m2, m3, m4⟩, m5, m6, m7, m8, m9⟩ := hm
 have hlen := m6.len
 have LY : Hid (lay x succ ref r p = cb .gam succ.length ++ bitsOf (if succ = [] then [] else (if 0 < p.win then [(.una, r)] else [])) ++ bitsOf (tlN x succ ref r p)) := Lib.hid (by unfold lay nums hdN; rw [bitsOf_append, bitsOf_cons])
 have H := Lib.hid (And.intro hA hB)
 unfold parV
 clear hA hB
 go_enter Tryz.func55, Tryz.ntmps55
 go_upto_region 1 with fail
 have H0 : LO w [(w.heap.size, .cells #[.int .i64 (p.win : Int), .int .i64 (p.itv : Int), .int .i64 (p.zet : Int)] 36 (0, 0))] [] (.slice none 0 0) (w.alloc (.cells #[.int .i64 (p.win : Int), .int .i64 (p.itv : Int), .int .i64 (p.zet : Int)] 36)) := LG.keep (ks := []) ⟨Below.refl _ _, World.ownsRow_nil _ _ _ _, fun _ h => by cases h⟩ _ _
 obtain ⟨W1, hW1⟩ : ∃ W, World.alloc w (.cells #[.int .i64 (p.win : Int), .int .i64 (p.itv : Int), .int .i64 (p.zet : Int)] 36) = W := ⟨_, rfl⟩
 rw [hW1] at H0
 rw [hW1]
 have H0 := Lib.hid H0
 obtain ⟨N, hN⟩ : ∃ N, succ.length = N := ⟨_, rfl⟩
 have HN := Lib.hid hN
 have hN9 : N ≤ 65536 := by omega
 rw [hN] at hc ⊢
 go_wp2_with fail
 with_reducible refine (GA.out N (by omega) _).mono ?_
 rintro e W2 ⟨v2, rfl, o2, k2⟩
 have H1 := Lib.hid (LO.first H0.out o2 k2)
 have K1 : Hid (Below w.heap.size w W2) := Lib.hid H1.out.1
 obtain ⟨s2, d2, rfl⟩ := own_shape o2
 generalize (cb Cd.gam N).length = l1 at H1 ⊢
 clear o2 k2 H0
 by_cases hs : succ = []
 ·have hN0 : N = 0 := by rw [← hN, hs]; rfl
  have E : Hid (lay x succ ref r p = cb .gam N) := Lib.hid (by rw [LY.out, HN.out, if_pos hs]; unfold tlN; rw [if_pos hs]; simp [bitsOf_nil])
  clear hN hs LY
  subst hN0
  go_wp2_with fail
  go_ret
  rw [E.out]
  exact H1.out.post
 ·have hN0 : ¬ (N : Int) = 0 := by
   intro h
   exact hs (List.eq_nil_of_length_eq_zero (by omega))
  have LY2 : Hid (lay x succ ref r p = cb .gam N ++ (if 0 < p.win then cb .una r else []) ++ bitsOf (runN succ ref r) ++ bitsOf (restN x (leftOf succ ref) p)) := Lib.hid (by
   rw [LY.out, HN.out, if_neg hs]; unfold tlN; rw [if_neg hs, bitsOf_append]
   split <;> simp [bitsOf_nil, bitsOf_cons, List.append_assoc])
  clear LY
  have HS := Lib.hid hs
  clear hs
  have hNb : ((N : Int) == 0) = false := beq_eq_false_iff_ne.2 hN0
  obtain ⟨wn, hwn⟩ : ∃ n, p.win = n := ⟨_, rfl⟩
  obtain ⟨iv, hiv⟩ : ∃ n, p.itv = n := ⟨_, rfl⟩
  obtain ⟨zt, hzt⟩ : ∃ n, p.zet = n := ⟨_, rfl⟩
  rw [hwn] at m1 m8 LY2
  rw [hiv] at m2
  rw [hzt] at m3 m4
  rw [hwn, hiv, hzt] at H1
  have c0 : W2.cell? ⟨w.heap.size, 0, none⟩ = some (.int .i64 (wn : Int)) := by rw [cell_of_row _ _ _ _ _ _ (H1.out.row (List.mem_singleton.2 rfl))]; rfl
  go_upto_if 30 with fail
  go_cut [11] from 28 to 36 (fun v11 wc => LO w [(w.heap.size, .cells #[.int .i64 (wn : Int), .int .i64 (iv : Int), .int .i64 (zt : Int)] 36 (0, 0))] (cb .gam N ++ (if 0 < wn then cb .una r else [])) v11 wc)
  case first =>
   by_cases hw0 : 0 < wn
   ·have i1 : decide ((0 : Int) < (wn : Int)) = true := decide_eq_true (by omega)
    have i1n : decide (0 < wn) = true := decide_eq_true hw0
    have f12 : IntKind.u64.wrap (r : Int) = (r : Int) := IntWalk.u64_in _ (by omega)
    have BU := Lib.hid (fun W => dbits_una r (by omega) W)
    have CL : (cb .gam N).length + (cb .una r).length ≤ 5243040 := by
     have := LL.out
     rw [LY2.out, if_pos hw0] at this
     simp only [List.length_append] at this
     omega
    have C3 : Hid ((cb .gam N).length + (cb .una r).length ≤ maxLen) := Lib.hid (by simp only [maxLen]; omega)
    have C4 : Hid (((cb .gam N).length + (cb .una r).length) * 1 ≤ 140737488355328) := Lib.hid (by omega)
    go_wp2_with fail
    with_reducible refine (BU.out _).mono ?_
    rintro e W3 ⟨v3, rfl, o3, k3⟩
    have pu := H1.out.own k3
    have ks := Nat.le_trans K1.out.size k3.size
    go_wp2_with (at_builtin; refine wpList_append_row _ rfl _ _ 26 rfl w.heap.size W2.heap.size 4 i0 _ 1 Tryz.underlying26 hi hz0 hz1 hz2 rfl _ _ _ rfl pu _ _ _ rfl o3 (bls_one _) C3.out C4.out ks ?_)
    intro v4 W4 own4 hg4 hw4
    have N1 := Lib.hid (H1.out.put k3 own4 hg4 hw4)
    clear own4 hg4 hw4 pu o3 k3
    go_wp2_with fail
    go_meet
    case rel => rw [if_pos hw0]; exact N1.out
   ·have i1 : decide ((0 : Int) < (wn : Int)) = false := decide_eq_false (by omega)
    have i1n : decide (0 < wn) = false := decide_eq_false hw0
    go_wp2_with fail
    go_meet
    case rel => rw [if_neg hw0, List.append_nil]; exact H1.out
  case rest =>
   have HCT := Lib.hid hcut
   obtain ⟨O1, hO1⟩ : ∃ O, cb .gam N ++ (if 0 < wn then cb .una r else []) = O := ⟨_, rfl⟩
   rw [hO1] at HCT LY2
   clear hcut hO1 H1 c0 K1
   go_upto_if 38 with fail
   go_cut [11, 12, 13] from 37 to 70 (fun v11 _ _ wc => LO w [(w.heap.size, .cells #[.int .i64 (wn : Int), .int .i64 (iv : Int), .int .i64 (zt : Int)] 36 (0, 0))] (O1 ++ bitsOf (runN succ ref r)) v11 wc)
   case first =>
    by_cases hr0 : 0 < r
    ·have i1 : decide ((0 : Int) < (r : Int)) = true := decide_eq_true (by omega)
     have i1n : decide (0 < r) = true := decide_eq_true hr0
     have AB := Lib.hid (fun W (k : Below w.heap.size w W) => druns_any W a succ cap b ref capb (H.out.1.below k) (H.out.2.below k) m6 m7)
     have RN : Hid (bitsOf (runN succ ref r) = cb .gam (runs succ ref).1.length ++ bitsOf ((rnm 0 (runs succ ref).1).map (fun v => (Cd.gam, v)))) := Lib.hid (by unfold runN; rw [if_pos hr0, bitsOf_cons])
     have NK : ∀ q ∈ (Cd.gam, (runs succ ref).1.length) :: (rnm 0 (runs succ ref).1).map (fun v => (Cd.gam, v)), q.2 < 262144 := fun q hq => ((nums_ok MN.out).1 q (by
      unfold nums tlN runN
      rw [if_neg HS.out, if_pos hr0]
      exact List.mem_append_right _ (List.mem_append_left _ hq))).2.1
     have RO := (runs_ok succ ref).pos
     obtain ⟨⟨I, z⟩, hQ⟩ : ∃ Q, runs succ ref = Q := ⟨_, rfl⟩
     have RO : ∀ i (h : i < I.length), 0 < i → 0 < I[i] := by rw [hQ] at RO; exact RO
     rw [hQ] at AB RN NK
     rw [HN.out] at AB
     dsimp only at AB RN NK
     obtain ⟨n, hn⟩ : ∃ n, I.length = n := ⟨_, rfl⟩
     have hn9 : n < 262144 := by rw [← hn]; exact NK _ (List.mem_cons_self ..)
     have RL : Hid (∀ i (h : i < n), (rnm 0 I)[i]? = some ((I[i]'(by omega)) - min i 1) ∧ (I[i]'(by omega)) - min i 1 < 262144 ∧ (0 < i → 0 < I[i]'(by omega))) := Lib.hid (fun i h => by
      have e := rnm_get 0 I i (by omega)
      rw [Nat.zero_add] at e
      exact ⟨e, NK (Cd.gam, _) (List.mem_cons_of_mem _ (List.mem_map.2 ⟨_, List.mem_of_getElem? e, rfl⟩)), fun h0 => RO i (by omega) h0⟩)
     have RV : Hid (∀ i (h : i < n), (runV (I, z))[i]? = some (.int .i64 ((I[i]'(by omega) : Nat) : Int))) := Lib.hid (fun i h => by
      unfold runV intV
      dsimp only
      rw [List.map_append, List.getElem?_append_left (by rw [List.length_map]; omega), List.getElem?_map, List.getElem?_eq_getElem (by omega)]
      rfl)
     have LB : Hid (((rnm 0 I).map (fun v => (Cd.gam, v))).length = n) := Lib.hid (by rw [List.length_map, rnm_length]; exact hn)
     have CL : O1.length + (cb .gam n).length + (bitsOf ((rnm 0 I).map (fun v => (Cd.gam, v)))).length ≤ 5243040 := by
      have := LL.out
      rw [LY2.out, RN.out, hn] at this
      simp only [List.length_append] at this
      omega
     rw [hn] at AB RN
     clear NK RO hQ
     go_wp2_with fail
     with_reducible refine (AB.out _ HCT.out.low).mono ?_
     rintro e W3 ⟨vR, rfl, oR, k3⟩
     obtain ⟨g, capR, cur, rfl, hcR, h3, hcell⟩ := HCT.out.beside k3 oR (Nat.succ_pos _)
     have HCL := Lib.hid hcell
     have H3 := Lib.hid h3
     obtain ⟨s3, d3, rfl⟩ := own_shape h3.2.1
     have wn1 : wrap64 (((n + 1 : Nat) : Int) - 1) = (n : Int) := by rw [IntWalk.wrap64_in _ (by omega)]; omega
     clear k3 oR h3 hcell
     go_wp2_with fail
     with_reducible refine (GA.out n (by omega) _).mono ?_
     rintro e W4 ⟨v4, rfl, o4, k4⟩
     have C3 : Hid (O1.length + (cb .gam n).length ≤ maxLen) := Lib.hid (by simp only [maxLen]; omega)
     have C4 : Hid ((O1.length + (cb .gam n).length) * 1 ≤ 140737488355328) := Lib.hid (by omega)
     have pu := H3.out.own k4
     have ks := Nat.le_trans H3.out.low.size k4.size
     go_wp2_with (at_builtin; refine wpList_append_row _ rfl _ _ 26 rfl w.heap.size W3.heap.size 4 i0 _ 1 Tryz.underlying26 hi hz0 hz1 hz2 rfl _ _ _ rfl pu _ _ _ rfl o4 (bls_one _) C3.out C4.out ks ?_)
     intro v5 W5 own5 hg5 hw5
     have N1 := Lib.hid (H3.out.put k4 own5 hg5 hw5)
     clear own5 hg5 hw5 pu o4 k4 ks
     obtain ⟨B, hB⟩ : ∃ B, (rnm 0 I).map (fun v => (Cd.gam, v)) = B := ⟨_, rfl⟩
     rw [hB] at RN LB
     obtain ⟨O2, hO2⟩ : ∃ O, O1 ++ cb .gam n = O := ⟨_, rfl⟩
     rw [hO2] at N1
     have HB2 := Lib.hid (And.intro hB hO2)
     have CL2 : Hid (O2.length + (bitsOf B).length ≤ 5243040) := Lib.hid (by rw [← hO2, ← hB, List.length_append]; exact CL)
     clear hB hO2 CL
     go_wp2_with fail
     go_loopw [11, 13] (fun v11 v13 wr => ∃ i : Nat, i ≤ n ∧ v13 = .int .i64 (i : Int) ∧ LO w [(g, .cells cur 3 (0, 0)), (w.heap.size, .cells #[.int .i64 (wn : Int), .int .i64 (iv : Int), .int .i64 (zt : Int)] 36 (0, 0))] (O2 ++ bitsOf (B.take i)) v11 wr)
      (fun _ v13 _ => n - (intOf v13).toNat)
     case atStart => exact ⟨0, Nat.zero_le _, rfl, by rw [List.take_zero, bitsOf_nil, List.append_nil]; exact N1.out⟩
     case round =>
      obtain ⟨i, hin, rfl, hW⟩ := hrel
      rename World => wr
      obtain ⟨s5, d5, rfl⟩ := own_shape hW.2.1
      have HW := Lib.hid hW
      clear hW
      by_cases hilt : i < n
      ·have ci := HCL.out wr (HW.out.row (List.mem_cons_self ..)) i _ (RV.out i hilt)
       obtain ⟨e1, e2, e3⟩ := RL.out i hilt
       obtain ⟨q, hq⟩ : ∃ q, I[i]'(by omega) = q := ⟨_, rfl⟩
       rw [hq] at ci e1 e2 e3
       obtain ⟨m, hm⟩ : ∃ m, q - min i 1 = m := ⟨_, rfl⟩
       rw [hm] at e1 e2
       have BT : bitsOf (B.take (i + 1)) = bitsOf (B.take i) ++ cb .gam m := by
        have hb : i < B.length := by rw [LB.out]; exact hilt
        have e4 : B[i] = (Cd.gam, m) := by
         have : B[i]? = some (Cd.gam, m) := by rw [← HB2.out.1, List.getElem?_map, e1]; rfl
         rw [List.getElem?_eq_getElem hb] at this
         exact Option.some.inj this
        rw [bitsOf_take B i hb, e4]
       obtain ⟨O3, hO3⟩ : ∃ O, O2 ++ bitsOf (B.take i) = O := ⟨_, rfl⟩
       rw [hO3] at HW ⊢
       have CL3 : O3.length + (cb .gam m).length ≤ 5243040 := by
        have h1 := bits_take_le B (i + 1)
        rw [BT, List.length_append] at h1
        have h2 := CL2.out
        rw [← hO3, List.length_append]
        omega
       have C3 : Hid (O3.length + (cb .gam m).length ≤ maxLen) := Lib.hid (by simp only [maxLen]; omega)
       have C4 : Hid ((O3.length + (cb .gam m).length) * 1 ≤ 140737488355328) := Lib.hid (by omega)
       have RS : Hid (O2 ++ bitsOf (B.take (i + 1)) = O3 ++ cb .gam m) := Lib.hid (by rw [BT, ← hO3, List.append_assoc])
       clear e1 BT CL3 hO3 hq
       by_cases h0 : i = 0
       ·subst h0
        have hmq : q = m := by omega
        subst hmq
        go_wp2_with fail
        with_reducible refine (GA.out q (by omega) _).mono ?_
        rintro e W6 ⟨v6, rfl, o6, k6⟩
        have pu := HW.out.own k6
        have ks := Nat.le_trans HW.out.low.size k6.size
        go_wp2_with (at_builtin; refine wpList_append_row _ rfl _ _ 26 rfl w.heap.size wr.heap.size 4 i0 _ 1 Tryz.underlying26 hi hz0 hz1 hz2 rfl _ _ _ rfl pu _ _ _ rfl o6 (bls_one _) C3.out C4.out ks ?_)
        intro v7 W7 own7 hg7 hw7
        have N2 := Lib.hid (HW.out.put k6 own7 hg7 hw7)
        clear own7 hg7 hw7 pu o6 k6 ks
        go_wp2_with fail
        go_roundw
        case rel => exact ⟨0 + 1, hilt, by go_num, by rw [RS.out]; exact N2.out⟩
        case measure => simp [intOf]; try omega
       ·have hmq : (q : Int) - 1 = (m : Int) := by have := e3 (by omega); omega
        have hib : ((i : Int) == 0) = false := beq_eq_false_iff_ne.2 (by omega)
        clear hm e3
        go_wp2_with fail
        with_reducible refine (GA.out m (by omega) _).mono ?_
        rintro e W6 ⟨v6, rfl, o6, k6⟩
        have pu := HW.out.own k6
        have ks := Nat.le_trans HW.out.low.size k6.size
        go_wp2_with (at_builtin; refine wpList_append_row _ rfl _ _ 26 rfl w.heap.size wr.heap.size 4 i0 _ 1 Tryz.underlying26 hi hz0 hz1 hz2 rfl _ _ _ rfl pu _ _ _ rfl o6 (bls_one _) C3.out C4.out ks ?_)
        intro v7 W7 own7 hg7 hw7
        have N2 := Lib.hid (HW.out.put k6 own7 hg7 hw7)
        clear own7 hg7 hw7 pu o6 k6 ks
        go_wp2_with fail
        go_roundw
        case rel => exact ⟨i + 1, hilt, by go_num, by rw [RS.out]; exact N2.out⟩
        case measure => simp [intOf]; try omega
      ·have hie : i = n := by omega
       subst hie
       have i5 : decide ((i : Int) + 1 < ((i + 1 : Nat) : Int)) = false := decide_eq_false (by omega)
       have FIN : Hid (O1 ++ bitsOf (runN succ ref r) = O2 ++ bitsOf (B.take i)) := Lib.hid (by
        rw [RN.out, List.take_of_length_le (by rw [LB.out]; exact Nat.le_refl _), ← HB2.out.2, List.append_assoc])
       go_wp2_with fail
       go_meet
       case rel => rw [FIN.out]; exact LG.sub HW.out (fun p hp => List.mem_cons_of_mem _ hp)
     all_goals skip
    ·have i1 : decide ((0 : Int) < (r : Int)) = false := decide_eq_false (by omega)
     have i1n : decide (0 < r) = false := decide_eq_false hr0
     go_wp2_with fail
     go_meet
     case rel => unfold runN; rw [if_neg hr0, bitsOf_nil, List.append_nil]; exact HCT.out
   case rest =>
    have HCT2 := Lib.hid hcut
    obtain ⟨O5, hO5⟩ : ∃ O, O1 ++ bitsOf (runN succ ref r) = O := ⟨_, rfl⟩
    rw [hO5] at HCT2 LY2
    clear hcut hO5 HCT
    obtain ⟨j0, hj, hj0, hj1, hj2⟩ := info_parts Tryz.infoU32
    have IN := Lib.hid (fun W (k : Below w.heap.size w W) v => in_any W b ref capb v (H.out.2.below k) m7.1)
    have LT0 : Hid (LT w [(w.heap.size, .cells #[.int .i64 (wn : Int), .int .i64 (iv : Int), .int .i64 (zt : Int)] 36 (0, 0))] O5 u11 [] (.slice none 0 0) wc) := Lib.hid ⟨HCT2.out, World.ownsRow_nil _ _ _ _, (fun g hg e => nomatch e), (fun p hp e => nomatch e)⟩
    clear HCT2
    go_wp2_with fail
    go_loopw [14, 15] (fun v14 v15 wr => ∃ i : Nat, i ≤ N ∧ v15 = .int .i64 (i : Int) ∧ LT w [(w.heap.size, .cells #[.int .i64 (wn : Int), .int .i64 (iv : Int), .int .i64 (zt : Int)] 36 (0, 0))] O5 u11 (leftOf (succ.take i) ref) v14 wr)
     (fun _ v15 _ => N - (intOf v15).toNat)
    case atStart => exact ⟨0, Nat.zero_le _, rfl, by rw [List.take_zero]; exact LT0.out⟩
    case round =>
     obtain ⟨i, hin, rfl, hT⟩ := hrel
     rename World => wr
     have HT := Lib.hid hT
     obtain ⟨s6, d6, rfl⟩ := own_shape hT.2.1
     clear hT
     by_cases hlt : i < N
     ·have i0' : decide ((i : Int) < (N : Int)) = true := decide_eq_true (by omega)
      have hil : i < succ.length := by rw [HN.out]; exact hlt
      obtain ⟨a0, ha0⟩ : ∃ x, succ[i] = x := ⟨_, rfl⟩
      obtain ⟨g, o, rfl⟩ := H.out.1.addr (by omega)
      have c0 : wr.cell? ⟨g, o + i, none⟩ = some (.int .u32 (a0 : Int)) := by
       obtain ⟨g', o', e, h3, _⟩ := (H.out.1.below HT.out.1.low).cellAt i hil
       injection e with e
       injection e with e1 e2
       subst e1 e2
       rw [h3, ha0]
      obtain ⟨bb, hbb⟩ : ∃ q, isIn ref a0 = q := ⟨_, rfl⟩
      have LS : Hid (leftOf (succ.take (i + 1)) ref = leftOf (succ.take i) ref ++ (if bb then [] else [a0])) := Lib.hid (by
       unfold leftOf
       rw [List.take_succ_eq_append_getElem hil, List.filter_append, ha0]
       congr 1
       rw [List.filter_cons, hbb]
       cases bb <;> rfl)
      have hLn : (leftOf (succ.take i) ref).length ≤ 65536 := Nat.le_trans (List.length_filter_le _ _) (by rw [List.length_take]; omega)
      obtain ⟨L, hL⟩ : ∃ L, leftOf (succ.take i) ref = L := ⟨_, rfl⟩
      rw [hL] at HT LS hLn ⊢
      have IN2 := Lib.hid (IN.out wr HT.out.1.low a0)
      rw [hbb] at IN2
      clear hL hbb ha0
      go_wp2_with fail
      with_reducible refine IN2.out.mono ?_
      rintro e w6 ⟨rfl, rfl⟩
      cases bb with
      | true =>
       go_wp2_with fail
       go_roundw
       case rel => exact ⟨i + 1, hlt, by go_num, by rw [LS.out]; simpa using HT.out⟩
       case measure => simp [intOf]; try omega
      | false =>
       have C3 : Hid (L.length + 1 ≤ maxLen) := Lib.hid (by simp only [maxLen]; omega)
       have C4 : Hid ((L.length + 1) * 4 ≤ 140737488355328) := Lib.hid (by omega)
       have C5 : Hid (w.heap.size ≤ wr.heap.size) := Lib.hid HT.out.1.low.size
       have ho := HT.out.2.1
       have C5' : Hid (w.heap.size ≤ (wr.alloc (.cells #[.int .u32 (a0 : Int)] 77)).heap.size) := Lib.hid (by simp; exact Nat.le_succ_of_le C5.out)
       have OA := Lib.hid (ho.alloc (.cells #[.int .u32 (a0 : Int)] 77))
       go_wp2_with (at_builtin; refine wpList_append_at _ rfl _ _ 34 rfl w.heap.size 77 j0 _ 1 4 Tryz.underlying34 hj hj0 hj1 hj2 rfl (by decide) _ L.length _ rfl OA.out ⟨wr.heap.size, 0, none⟩ 1 1 [.int .u32 (a0 : Int)] rfl rfl (cell_one_new _ _ _) (u32_one [a0]) C3.out C4.out C5'.out (by decide) ?_)
       intro v7 w7 own7 hg7 hw7
       have T2 := Lib.hid (HT.out.add1 a0 _ own7 hg7 hw7)
       clear ho own7 hg7 hw7
       go_wp2_with fail
       go_roundw
       case rel => exact ⟨i + 1, hlt, by go_num, by rw [LS.out]; simpa using T2.out⟩
       case measure => simp [intOf]; try omega
     ·have i0' : decide ((i : Int) < (N : Int)) = false := decide_eq_false (by omega)
      have hie : leftOf (succ.take i) ref = leftOf succ ref := by rw [List.take_of_length_le (by rw [HN.out]; omega)]
      obtain ⟨L, hL⟩ : ∃ L, leftOf succ ref = L := ⟨_, rfl⟩
      rw [hie, hL] at HT ⊢
      rw [hL] at LY2
      have HLF := Lib.hid hL
      clear hie hL
      by_cases hL0 : L = []
      ·have E : Hid (lay x succ ref r p = O5) := Lib.hid (by rw [LY2.out]; unfold restN; rw [if_pos hL0, bitsOf_nil, List.append_nil])
       subst hL0
       have hT1 := HT.out.1
       obtain ⟨s7, d7, rfl⟩ := own_shape hT1.2.1
       go_wp2_with fail
       go_ret
       rw [E.out]
       exact hT1.post
      ·have hRL : Ris L := by
        rw [← HLF.out]
        exact ⟨m6.1.sublist (List.filter_sublist ..), fun v hv => m6.2 v ((List.mem_filter.1 hv).1)⟩
       have hLl := hRL.len
       have hln : ¬ (L.length : Int) = 0 := fun h => hL0 (List.eq_nil_of_length_eq_zero (by omega))
       have hlnb : ((L.length : Int) == 0) = false := beq_eq_false_iff_ne.2 hln
       obtain ⟨aL, cL, eL, hcL, hLV⟩ := lv_own (by omega) (fun u hu => Nat.lt_of_lt_of_le (hRL.2 u hu) (by decide)) HT.out.2.1
       injection eL with eL1 eL2 eL3
       subst eL1 eL3
       have c1 : wr.cell? ⟨w.heap.size, 1, none⟩ = some (.int .i64 (iv : Int)) := by rw [cell_of_row _ _ _ _ _ _ (HT.out.1.row (List.mem_singleton.2 rfl))]; rfl
       have IV := Lib.hid (intervals_any wr s6 L d6 iv hcL (by omega) hLV hRL)
       clear hLV
       go_wp2_with fail
       with_reducible refine IV.out.mono ?_
       rintro e w8 ⟨v1, v2, rfl, hI⟩
       have HI := Lib.hid hI
       obtain ⟨a8, d8, rfl⟩ := own_shape hI.2.1
       obtain ⟨a9, d9, rfl⟩ := own_shape hI.2.2.1
       have HN8 : Hid (LO w [(w.heap.size, .cells #[.int .i64 (wn : Int), .int .i64 (iv : Int), .int .i64 (zt : Int)] 36 (0, 0))] O5 u11 w8) := Lib.hid (LG.next HT.out.1 hI.1)
       clear hI c1
       have c1 : w8.cell? ⟨w.heap.size, 1, none⟩ = some (.int .i64 (iv : Int)) := by rw [cell_of_row _ _ _ _ _ _ (HN8.out.row (List.mem_singleton.2 rfl))]; rfl
       have HLO := Lib.hid HT.out.1
       obtain ⟨⟨rws1, rst1⟩, hRW⟩ : ∃ Q, rws iv L = Q := ⟨_, rfl⟩
       have HRW := Lib.hid hRW
       rw [hRW] at HI ⊢
       dsimp only at HI ⊢
       obtain ⟨ks1, hs1, h8a, HC1⟩ := LO.besides HN8.out HI.out.2.1 (fun g e he => by
        have e1 := (HLO.out.2.1.lt g he.symm).2
        have e2 := (HI.out.2.1.lt g (by rw [e]; rfl)).1
        omega)
       obtain ⟨ks2, hs2, h8b, HC2⟩ := LO.besides h8a HI.out.2.2.1 (fun g e he => by
        have e1 := (HLO.out.2.1.lt g he.symm).2
        have e2 := (HI.out.2.2.1.lt g (by rw [e]; rfl)).1
        omega)
       have PB := Lib.hid (hs2 _ (hs1 _ (List.mem_singleton.2 rfl)))
       have HC1 := Lib.hid (fun W' (h : ∀ p ∈ ks2, W'.heap[p.1]? = some p.2) => HC1 W' (fun p hp => h p (hs2 p hp)))
       have HC2 := Lib.hid HC2
       have H8 := Lib.hid h8b
       clear h8a h8b hs1 hs2 hRW HN8 HI HLO
       have RB : Hid (bitsOf (restN x L p) = (if 0 < iv then cb .gam rws1.length else []) ++ bitsOf ((lnm x iv none rws1).map (fun v => (Cd.gam, v))) ++ bitsOf ((znm x none rst1).map (fun v => (Cd.zet zt, v)))) := Lib.hid (by
        unfold restN
        rw [if_neg hL0, hiv, hzt, HRW.out, bitsOf_append, bitsOf_append]
        congr 2
        split <;> simp [bitsOf_cons, bitsOf_nil])
       have NKR : Hid (∀ q ∈ restN x L p, q.2 < 262144) := Lib.hid (fun q hq => ((nums_ok MN.out).1 q (by
        unfold nums tlN
        rw [if_neg HS.out, HLF.out]
        exact List.mem_append_right _ (List.mem_append_right _ hq))).2.1)
       have CL : O5.length + (bitsOf (restN x L p)).length ≤ 5243040 := by
        have := LL.out
        rw [LY2.out] at this
        simpa only [List.length_append] using this
       go_upto_if 104 with fail
       go_cut [11] from 102 to 109 (fun v11 wc => LO w ks2 (O5 ++ (if 0 < iv then cb .gam rws1.length else [])) v11 wc)
       case first =>
        by_cases hv0 : 0 < iv
        ·have i1 : decide ((0 : Int) < (iv : Int)) = true := decide_eq_true (by omega)
         have i1n : decide (0 < iv) = true := decide_eq_true hv0
         have hnr : rws1.length < 262144 := NKR.out (Cd.gam, rws1.length) (by
          unfold restN
          rw [if_neg hL0, hiv, HRW.out, if_pos hv0]
          exact List.mem_append_left _ (List.mem_append_left _ (List.mem_singleton.2 rfl)))
         rw [RB.out, if_pos hv0] at CL
         simp only [List.length_append] at CL
         have C3 : Hid (O5.length + (cb .gam rws1.length).length ≤ maxLen) := Lib.hid (by simp only [maxLen]; omega)
         have C4 : Hid ((O5.length + (cb .gam rws1.length).length) * 1 ≤ 140737488355328) := Lib.hid (by omega)
         obtain ⟨s9, d9, rfl⟩ := own_shape H8.out.2.1
         clear CL
         go_wp2_with fail
         with_reducible refine (GA.out rws1.length (by omega) _).mono ?_
         rintro e W4 ⟨v4, rfl, o4, k4⟩
         have pu := H8.out.own k4
         have ks := Nat.le_trans H8.out.low.size k4.size
         go_wp2_with (at_builtin; refine wpList_append_row _ rfl _ _ 26 rfl w.heap.size w8.heap.size 4 i0 _ 1 Tryz.underlying26 hi hz0 hz1 hz2 rfl _ _ _ rfl pu _ _ _ rfl o4 (bls_one _) C3.out C4.out ks ?_)
         intro v5 W5 own5 hg5 hw5
         have N1 := Lib.hid (H8.out.put k4 own5 hg5 hw5)
         clear own5 hg5 hw5 pu o4 k4 ks
         go_wp2_with fail
         go_meet
         case rel => rw [if_pos hv0]; exact N1.out
        ·have i1 : decide ((0 : Int) < (iv : Int)) = false := decide_eq_false (by omega)
         have i1n : decide (0 < iv) = false := decide_eq_false hv0
         go_wp2_with fail
         go_meet
         case rel => rw [if_neg hv0, List.append_nil]; exact H8.out
       case rest =>
        have HC5 := Lib.hid hcut
        obtain ⟨O6, hO6⟩ : ∃ O, O5 ++ (if 0 < iv then cb .gam rws1.length else []) = O := ⟨_, rfl⟩
        rw [hO6] at HC5
        have LY3 : Hid (lay x succ ref r p = O6 ++ bitsOf ((lnm x iv none rws1).map (fun v => (Cd.gam, v))) ++ bitsOf ((znm x none rst1).map (fun v => (Cd.zet zt, v)))) := Lib.hid (by rw [LY2.out, RB.out, ← hO6]; simp only [List.append_assoc])
        have AP := Lib.hid (show Apart iv none rws1 from by have h := (rws_ok iv L hRL).apart; rw [HRW.out] at h; exact h)
        obtain ⟨np, hnp⟩ : ∃ np, rws1.length = np := ⟨_, rfl⟩
        obtain ⟨nr, hnr⟩ : ∃ nr, rst1.length = nr := ⟨_, rfl⟩
        have NKL : Hid (∀ v ∈ lnm x iv none rws1, v < 262144) := Lib.hid (fun v hv => NKR.out (Cd.gam, v) (by
         unfold restN
         rw [if_neg hL0, hiv, HRW.out]
         exact List.mem_append_left _ (List.mem_append_right _ (List.mem_map.2 ⟨v, hv, rfl⟩))))
        have NKZ : Hid (∀ v ∈ znm x none rst1, v < 262144) := Lib.hid (fun v hv => NKR.out (Cd.zet zt, v) (by
         unfold restN
         rw [if_neg hL0, hiv, hzt, HRW.out]
         exact List.mem_append_right _ (List.mem_map.2 ⟨v, hv, rfl⟩)))
        have CLR : Hid (∀ k, (O6 ++ bitsOf ((lnm x iv none (rws1.take k)).map (fun v => (Cd.gam, v)))).length + (bitsOf ((znm x none rst1).map (fun v => (Cd.zet zt, v)))).length ≤ 5243040) := Lib.hid (fun k => by
         have h1 := LL.out
         rw [LY3.out] at h1
         have h2 := bits_take_le ((lnm x iv none rws1).map (fun v => (Cd.gam, v))) (2 * k)
         rw [← List.map_take, ← lnm_take] at h2
         simp only [List.length_append] at h1 ⊢
         omega)
        have hnp9 : np < 262144 := by
         by_cases h0 : 0 < iv
         ·rw [← hnp]; exact NKR.out (Cd.gam, rws1.length) (by
           unfold restN
           rw [if_neg hL0, hiv, HRW.out, if_pos h0]
           exact List.mem_append_left _ (List.mem_append_left _ (List.mem_singleton.2 rfl)))
         ·have h2 := apart_len _ _ AP.out
          have h1 := (rws_ok iv L hRL).perm.length_eq
          rw [List.length_append, sumLen, HRW.out] at h1
          dsimp only at h1
          omega
        have hnr9 : nr < 262144 := by
         have h1 := (rws_ok iv L hRL).sub.length_le
         rw [HRW.out] at h1
         dsimp only at h1
         omega
        have HNP := Lib.hid hnp
        have HNR := Lib.hid hnr
        rw [hnp, hnr]
        clear hcut hO6 H8 CL hnp hnr
        go_wp2_with fail
        go_loopw [11, 18] (fun v11 v18 wr => ∃ i : Nat, i ≤ np ∧ v18 = .int .i64 (i : Int) ∧ LO w ks2 (O6 ++ bitsOf ((lnm x iv none (rws1.take i)).map (fun v => (Cd.gam, v)))) v11 wr)
         (fun _ v18 _ => np - (intOf v18).toNat)
        case atStart => exact ⟨0, Nat.zero_le _, rfl, by rw [List.take_zero]; unfold lnm; rw [List.map_nil, bitsOf_nil, List.append_nil]; exact HC5.out⟩
        case round =>
         obtain ⟨i, hin, rfl, hT⟩ := hrel
         rename World => wr
         obtain ⟨s5, d5, rfl⟩ := own_shape hT.2.1
         have HT := Lib.hid hT
         clear hT
         by_cases hlt : i < np
         · --A1
          have hip : i < rws1.length := by rw [HNP.out]; exact hlt
          obtain ⟨g, rfl, p0⟩ := HC1.out wr (fun p hp => (HT.out.2.2 p hp).1) (i * 2) _ (piV_get rws1 i hip).1
          obtain ⟨g', eg, p1⟩ := HC1.out wr (fun p hp => (HT.out.2.2 p hp).1) (i * 2 + 1) _ (piV_get rws1 i hip).2
          obtain rfl : g' = g := by injection eg with eg; injection eg with eg; exact eg.symm
          obtain ⟨b0, b1, b2, b3⟩ := Apart.get AP.out i hip
          obtain ⟨f, hf⟩ : ∃ f, rws1[i].1 = f := ⟨_, rfl⟩
          obtain ⟨n', hn'⟩ : ∃ n', rws1[i].2 = n' := ⟨_, rfl⟩
          rw [hf] at p0 b2 b3
          rw [hn'] at p1 b0 b1 b2
          have TK : Hid (rws1.take (i + 1) = rws1.take i ++ [(f, n')]) := Lib.hid (by rw [List.take_succ_eq_append_getElem hip, ← hf, ← hn'])
          have SN := Lib.hid (lnm_snoc x iv none (rws1.take i) f n')
          rw [← TK.out] at SN
          obtain ⟨v0, hv0⟩ : ∃ v0, frstN x (lend none (rws1.take i)) f = v0 := ⟨_, rfl⟩
          rw [hv0] at SN
          have V0 := Lib.hid hv0
          obtain ⟨O7, hO7⟩ : ∃ O, O6 ++ bitsOf ((lnm x iv none (rws1.take i)).map (fun v => (Cd.gam, v))) = O := ⟨_, rfl⟩
          rw [hO7] at HT ⊢
          have LS : Hid (O6 ++ bitsOf ((lnm x iv none (rws1.take (i + 1))).map (fun v => (Cd.gam, v))) = O7 ++ cb .gam v0 ++ cb .gam (n' - iv)) := Lib.hid (by
           rw [SN.out, List.map_append, bitsOf_append, ← List.append_assoc, hO7]
           simp [bitsOf_cons, bitsOf_nil])
          have CLi : O7.length + (cb .gam v0).length + (cb .gam (n' - iv)).length ≤ 5243040 := by
           have h1 := CLR.out (i + 1)
           have h2 := congrArg List.length LS.out
           simp only [List.length_append] at h1 h2
           omega
          have hv9 : v0 < 262144 := NKL.out v0 (by
           have h1 : v0 ∈ lnm x iv none (rws1.take (i + 1)) := by rw [SN.out]; exact List.mem_append_right _ (List.mem_cons_self ..)
           rw [lnm_take] at h1
           exact List.mem_of_mem_take h1)
          have HN2 := Lib.hid hn'
          clear hf hn' hO7 hv0 eg
          have C3 : Hid (O7.length + (cb .gam v0).length ≤ maxLen) := Lib.hid (by simp only [maxLen]; omega)
          have C4 : Hid ((O7.length + (cb .gam v0).length) * 1 ≤ 140737488355328) := Lib.hid (by omega)
          have B3 := Lib.hid b3
          clear b3
          go_upto_if 117 with fail
          go_cut [11] from 116 to 152 (fun v11 wc => LO w ks2 (O7 ++ cb .gam v0) v11 wc)
          case first =>
           by_cases h0 : i = 0
           ·subst h0
            have ZG := Lib.hid (fun W => dzig_any f x (by omega) m5 W)
            have V1 : Hid (zig ((f : Int) - (x : Int)) = v0) := Lib.hid (by rw [← V0.out, List.take_zero]; rfl)
            rw [V1.out] at ZG
            rw [Nat.zero_mul] at p0
            go_wp2_with fail
            with_reducible refine (ZG.out _).mono ?_
            rintro e w2 ⟨rfl, rfl⟩
            go_wp2_with fail
            with_reducible refine (GA.out v0 (by omega) _).mono ?_
            rintro e W6 ⟨v6, rfl, o6, k6⟩
            have pu := HT.out.own k6
            have ks := Nat.le_trans HT.out.low.size k6.size
            go_wp2_with (at_builtin; refine wpList_append_row _ rfl _ _ 26 rfl w.heap.size wr.heap.size 4 i0 _ 1 Tryz.underlying26 hi hz0 hz1 hz2 rfl _ _ _ rfl pu _ _ _ rfl o6 (bls_one _) C3.out C4.out ks ?_)
            intro v7 W7 own7 hg7 hw7
            have N2 := Lib.hid (HT.out.put k6 own7 hg7 hw7)
            clear own7 hg7 hw7 pu o6 k6 ks
            go_wp2_with fail
            go_meet
            case rel => exact N2.out
           ·obtain ⟨j, hj⟩ : ∃ j, j + 1 = i := ⟨i - 1, by omega⟩
            have hjp : j < rws1.length := by rw [HNP.out]; omega
            obtain ⟨g2, eg, q0⟩ := HC1.out wr (fun p hp => (HT.out.2.2 p hp).1) (j * 2) _ (piV_get rws1 j hjp).1
            obtain rfl : g' = g2 := by injection eg with eg; injection eg with eg
            obtain ⟨g2, eg, q1⟩ := HC1.out wr (fun p hp => (HT.out.2.2 p hp).1) (j * 2 + 1) _ (piV_get rws1 j hjp).2
            obtain rfl : g' = g2 := by injection eg with eg; injection eg with eg
            obtain ⟨c0, c1, c2, c3⟩ := Apart.get AP.out j hjp
            have LD : lend none (rws1.take i) = some (rws1[j].1 + rws1[j].2 - 1) := by
             rw [← hj, List.take_succ_eq_append_getElem hjp]
             exact lend_snoc _ _ _ _
            have b4 := B3.out _ LD
            have V1 := V0.out
            rw [LD] at V1
            change f - _ - 2 = v0 at V1
            obtain ⟨f2, hf2⟩ : ∃ f, rws1[j].1 = f := ⟨_, rfl⟩
            obtain ⟨n2, hn2⟩ : ∃ n, rws1[j].2 = n := ⟨_, rfl⟩
            rw [hf2] at q0 c2 b4 V1
            rw [hn2] at q1 c0 c1 c2 b4 V1
            have a1 : IntKind.i64.wrap ((i : Int) - 1) = (j : Int) := by rw [IntWalk.i64_in _ (by omega)]; omega
            have a2 : (j : Int) < (np : Int) := by omega
            have a3 : (0 : Int) ≤ (j : Int) := Int.natCast_nonneg _
            have hib : ((i : Int) == 0) = false := beq_eq_false_iff_ne.2 (by omega)
            clear hf2 hn2 LD eg
            go_upto_region 31 with fail
            have Z5 := Lib.hid (gap_wrap f f2 n2 v0 (by omega) (by omega) V1 ⟨b4, c1⟩)
            clear V1 b4 c0 c1 c2 c3 eg b0 b2
            have HTD : Hid (LO w ks2 O7 (.slice s5 O7.length d5) wr.drew) := Lib.hid (LG.drew HT.out)
            --R31
            go_region_law (first
             | (go_simp; go_at_call 89; rw [Z5.out]; (with_reducible refine (GA.out v0 (by omega) _).mono ?_); rintro e W6 ⟨v6, rfl, o6, k6⟩; have pu := HTD.out.own k6; have ks := Nat.le_trans HTD.out.low.size k6.size; dsimp only)
             | (refine wp_append_row _ (by rfl) (.tmp 127) (.tmp 151) 26 rfl w.heap.size wr.heap.size 4 i0 (.bool false) 1 Tryz.underlying26 hi hz0 hz1 hz2 rfl _ _ _ rfl pu _ _ _ rfl o6 (bls_one _) C3.out C4.out ks ?_; intro v7 W7 own7 hg7 hw7; have N2 := Lib.hid (HTD.out.put k6 own7 hg7 hw7); obtain ⟨a3, cap3, rfl⟩ := own_shape own7; clear own7 hg7 hw7))
            all_goals
             go_wp2_with fail
             go_meet
            all_goals exact N2.out
          case rest =>
           have HU := Lib.hid hcut
           rename World => wq
           obtain ⟨s9, d9', rfl⟩ := own_shape HU.out.2.1
           clear hcut HT p0 p1
           obtain ⟨g2, eg, p1⟩ := HC1.out wq (fun p hp => (HU.out.2.2 p hp).1) (i * 2 + 1) _ (piV_get rws1 i hip).2
           obtain rfl : g' = g2 := by injection eg with eg; injection eg with eg
           have q1 : wq.cell? ⟨w.heap.size, 1, none⟩ = some (.int .i64 (iv : Int)) := by rw [cell_of_row _ _ _ _ _ _ (HU.out.row PB.out)]; rfl
           obtain ⟨O8, hO8⟩ : ∃ O, O7 ++ cb .gam v0 = O := ⟨_, rfl⟩
           obtain ⟨d, hd⟩ : ∃ d, n' - iv = d := ⟨_, rfl⟩
           rw [HN2.out] at p1
           rw [hO8] at HU LS ⊢
           rw [hd] at LS CLi
           have CL8 : O8.length + (cb .gam d).length ≤ 5243040 := by rw [← hO8, List.length_append]; omega
           have C3 : Hid (O8.length + (cb .gam d).length ≤ maxLen) := Lib.hid (by simp only [maxLen]; omega)
           have C4 : Hid ((O8.length + (cb .gam d).length) * 1 ≤ 140737488355328) := Lib.hid (by omega)
           have Z6 : Hid (IntKind.i64.wrap ((n' : Int) - (iv : Int)) = (d : Int)) := Lib.hid (by rw [IntWalk.i64_in _ (by omega)]; omega)
           have d9 : d < 262144 := by omega
           clear hO8 hd CLi CL8 eg b0 b1 b2 hv9
           go_upto_region 32 with fail
           have HTD : Hid (LO w ks2 O8 (.slice s9 O8.length d9') wq.drew) := Lib.hid (LG.drew HU.out)
           --R32
           go_region_law (first
            | (go_simp; go_at_call 89; rw [Z6.out]; (with_reducible refine (GA.out d (by omega) _).mono ?_); rintro e W6 ⟨v6, rfl, o6, k6⟩; have pu := HTD.out.own k6; have ks := Nat.le_trans HTD.out.low.size k6.size; dsimp only)
            | (refine wp_append_row _ (by rfl) (.tmp 153) (.tmp 162) 26 rfl w.heap.size wq.heap.size 4 i0 (.bool false) 1 Tryz.underlying26 hi hz0 hz1 hz2 rfl _ _ _ rfl pu _ _ _ rfl o6 (bls_one _) C3.out C4.out ks ?_; intro v7 W7 own7 hg7 hw7; have N2 := Lib.hid (HTD.out.put k6 own7 hg7 hw7); obtain ⟨a3, cap3, rfl⟩ := own_shape own7; clear own7 hg7 hw7))
           all_goals
            go_wp2_with fail
            go_roundw
           all_goals first | exact ⟨i + 1, hlt, by go_num, by rw [LS.out]; exact N2.out⟩ | (simp [intOf]; omega)
         ·have hie : i = np := by omega
          subst hie
          have i5 : decide ((i : Int) < (i : Int)) = false := decide_eq_false (by omega)
          have TK : Hid (rws1.take i = rws1) := Lib.hid (List.take_of_length_le (by rw [HNP.out]; exact Nat.le_refl _))
          rw [TK.out] at HT
          obtain ⟨O7, hO7⟩ : ∃ O, O6 ++ bitsOf ((lnm x iv none rws1).map (fun v => (Cd.gam, v))) = O := ⟨_, rfl⟩
          rw [TK.out, hO7]
          rw [hO7] at HT LY3
          clear hO7
          have c2 : wr.cell? ⟨w.heap.size, 2, none⟩ = some (.int .i64 (zt : Int)) := by rw [cell_of_row _ _ _ _ _ _ (HT.out.row PB.out)]; rfl
          have zw : IntKind.u64.wrap (zt : Int) = (zt : Int) := IntWalk.u64_in _ (by omega)
          have HLr : Hid (Ris rst1) := Lib.hid (by
           have h1 := (rws_ok iv L hRL).sub
           rw [HRW.out] at h1
           exact ⟨hRL.1.sublist h1, fun v hv => hRL.2 v (h1.subset hv)⟩)
          go_upto_region 34 with fail
          have H9 : Hid (LO w ((wr.heap.size, .cells #[.int .u8 3, .int .u64 (zt : Int)] 104 (0, 0)) :: ks2) O7 (.slice s5 O7.length d5) (wr.alloc (.cells #[.int .u8 3, .int .u64 (zt : Int)] 104))) := Lib.hid (LG.keep HT.out _ _)
          generalize hzb : wr.heap.size = zb at H9 ⊢
          generalize World.alloc wr _ = W9 at H9 ⊢
          clear hzb c2 zw HT HC1
          obtain ⟨B, hB⟩ : ∃ B, znm x none rst1 = B := ⟨_, rfl⟩
          have ZT := Lib.hid (fun k => znm_take x k none rst1)
          have HB := Lib.hid hB
          have CLZ : Hid (∀ k, (O7 ++ bitsOf ((znm x none (rst1.take k)).map (fun v => (Cd.zet zt, v)))).length ≤ 5243040) := Lib.hid (fun k => by
           have h1 := LL.out
           rw [LY3.out, List.length_append] at h1
           have h2 := bits_take_le ((znm x none rst1).map (fun v => (Cd.zet zt, v))) k
           rw [← List.map_take, ← znm_take] at h2
           rw [List.length_append]
           omega)
          clear hB
          go_wp2_with fail
          go_loopw [11, 20] (fun v11 v20 wr => ∃ i : Nat, i ≤ nr ∧ v20 = .int .i64 (i : Int) ∧ LO w ((zb, .cells #[.int .u8 3, .int .u64 (zt : Int)] 104 (0, 0)) :: ks2) (O7 ++ bitsOf ((znm x none (rst1.take i)).map (fun v => (Cd.zet zt, v)))) v11 wr)
           (fun _ v20 _ => nr - (intOf v20).toNat)
          case atStart => exact ⟨0, Nat.zero_le _, rfl, by rw [List.take_zero]; unfold znm; rw [List.map_nil, bitsOf_nil, List.append_nil]; exact H9.out⟩
          case round =>
           obtain ⟨j, hjn, rfl, hU⟩ := hrel
           rename World => wq
           obtain ⟨s9, d9, rfl⟩ := own_shape hU.2.1
           have HU := Lib.hid hU
           clear hU H9
           by_cases hjt : j < nr
           ·have hjr : j < rst1.length := by rw [HNR.out]; exact hjt
            obtain ⟨g, rfl, p0⟩ := HC2.out wq (fun p hp => (HU.out.2.2 p (List.mem_cons_of_mem _ hp)).1) j (.int .u32 (rst1[j] : Int)) (by unfold u32V; rw [List.getElem?_map, List.getElem?_eq_getElem hjr]; rfl)
            obtain ⟨v, hv⟩ : ∃ v, rst1[j] = v := ⟨_, rfl⟩
            have hvb : v < 65536 := by rw [← hv]; exact HLr.out.2 _ (List.getElem_mem hjr)
            rw [hv] at p0
            have TK : Hid (rst1.take (j + 1) = rst1.take j ++ [v]) := Lib.hid (by rw [List.take_succ_eq_append_getElem hjr, hv])
            obtain ⟨v0, hv0⟩ : ∃ v0, resN x (rst1.take j).getLast? v = v0 := ⟨_, rfl⟩
            have SN : Hid (znm x none (rst1.take (j + 1)) = znm x none (rst1.take j) ++ [v0]) := Lib.hid (by rw [TK.out, znm_snoc, ← hv0]; cases (rst1.take j).getLast? <;> rfl)
            have V0 := Lib.hid hv0
            have hv9 : v0 < 262144 := NKZ.out v0 (by
             have h1 : v0 ∈ znm x none (rst1.take (j + 1)) := by rw [SN.out]; exact List.mem_append_right _ (List.mem_cons_self ..)
             rw [znm_take] at h1
             exact List.mem_of_mem_take h1)
            obtain ⟨O8, hO8⟩ : ∃ O, O7 ++ bitsOf ((znm x none (rst1.take j)).map (fun v => (Cd.zet zt, v))) = O := ⟨_, rfl⟩
            rw [hO8] at HU ⊢
            have LS : Hid (O7 ++ bitsOf ((znm x none (rst1.take (j + 1))).map (fun v => (Cd.zet zt, v))) = O8 ++ cb (.zet zt) v0) := Lib.hid (by
             rw [SN.out, List.map_append, bitsOf_append, ← List.append_assoc, hO8]
             simp [bitsOf_cons, bitsOf_nil])
            have CL8 : O8.length + (cb (.zet zt) v0).length ≤ 5243040 := by
             have h1 := CLZ.out (j + 1)
             rw [LS.out, List.length_append] at h1
             exact h1
            have C3 : Hid (O8.length + (cb (.zet zt) v0).length ≤ maxLen) := Lib.hid (by simp only [maxLen]; omega)
            have C4 : Hid ((O8.length + (cb (.zet zt) v0).length) * 1 ≤ 140737488355328) := Lib.hid (by omega)
            have BZ := Lib.hid (fun W => dbits_zet zt v0 (by omega) (by omega) (by omega) W)
            clear hv0 hO8 CL8
            by_cases h0 : j = 0
            ·subst h0
             have ZG := Lib.hid (fun W => dzig_any v x hvb m5 W)
             have V1 : Hid (zig ((v : Int) - (x : Int)) = v0) := Lib.hid (by rw [← V0.out, List.take_zero]; rfl)
             rw [V1.out] at ZG
             have Z7 : Hid (IntKind.u64.wrap (v0 : Int) = (v0 : Int)) := Lib.hid (IntWalk.u64_in _ (by omega))
             clear hv
             go_upto_region 38 with fail
             have HTD : Hid (LO w ((zb, .cells #[.int .u8 3, .int .u64 (zt : Int)] 104 (0, 0)) :: ks2) O8 (.slice s9 O8.length d9) wq.drew) := Lib.hid (LG.drew HU.out)
             have r9 := HTD.out.row (List.mem_cons_self ..)
             have c0 : wq.drew.cell? ⟨zb, 0, none⟩ = some (.int .u8 3) := by rw [cell_of_row _ _ _ _ _ _ r9]; rfl
             have c1 : wq.drew.cell? ⟨zb, 1, none⟩ = some (.int .u64 (zt : Int)) := by rw [cell_of_row _ _ _ _ _ _ r9]; rfl
             clear r9
             --R38
             go_region_law (first
              | (go_simp; go_at_call 94; (with_reducible refine (ZG.out _).mono ?_); rintro e W6 ⟨rfl, rfl⟩; dsimp only)
              | (go_simp; go_at_call 90; rw [Z7.out]; (with_reducible refine (BZ.out _).mono ?_); rintro e W6 ⟨v6, rfl, o6, k6⟩; have pu := HTD.out.own k6; have ks := Nat.le_trans HTD.out.low.size k6.size; dsimp only)
              | (refine wp_append_row _ (by rfl) (.tmp 176) (.tmp 184) 26 rfl w.heap.size wq.heap.size 4 i0 (.bool false) 1 Tryz.underlying26 hi hz0 hz1 hz2 rfl _ _ _ rfl pu _ _ _ rfl o6 (bls_one _) C3.out C4.out ks ?_; intro v7 W7 own7 hg7 hw7; have N2 := Lib.hid (HTD.out.put k6 own7 hg7 hw7); obtain ⟨a3, cap3, rfl⟩ := own_shape own7; clear own7 hg7 hw7))
             all_goals
              go_wp2_with fail
              go_roundw
             all_goals first | exact ⟨0 + 1, hjt, by go_num, by rw [LS.out]; exact N2.out⟩ | (simp [intOf]; omega)
            ·obtain ⟨q, hq⟩ : ∃ q, q + 1 = j := ⟨j - 1, by omega⟩
             have hqr : q < rst1.length := by rw [HNR.out]; omega
             obtain ⟨g2, eg, q0⟩ := HC2.out wq (fun p hp => (HU.out.2.2 p (List.mem_cons_of_mem _ hp)).1) q (.int .u32 (rst1[q] : Int)) (by unfold u32V; rw [List.getElem?_map, List.getElem?_eq_getElem hqr]; rfl)
             obtain rfl : g = g2 := by injection eg with eg; injection eg with eg
             have huv : rst1[q] < v := by
              have h2 := List.pairwise_iff_getElem.1 HLr.out.1 q j hqr hjr (by omega)
              omega
             have V1 := V0.out
             have LD : (rst1.take j).getLast? = some rst1[q] := by rw [← hq, List.take_succ_eq_append_getElem hqr, List.getLast?_concat]
             rw [LD] at V1
             change v - _ - 1 = v0 at V1
             obtain ⟨u, hu⟩ : ∃ u, rst1[q] = u := ⟨_, rfl⟩
             rw [hu] at q0 huv V1
             have a1 : IntKind.i64.wrap ((j : Int) - 1) = (q : Int) := by rw [IntWalk.i64_in _ (by omega)]; omega
             have a2 : (q : Int) < (nr : Int) := by omega
             have a3 : (0 : Int) ≤ (q : Int) := Int.natCast_nonneg _
             have hib : ((j : Int) == 0) = false := beq_eq_false_iff_ne.2 (by omega)
             have Z8 := Lib.hid (rest_wrap v u v0 hvb huv V1)
             clear hu LD V1 huv eg hv hvb
             go_upto_region 39 with fail
             have HTD : Hid (LO w ((zb, .cells #[.int .u8 3, .int .u64 (zt : Int)] 104 (0, 0)) :: ks2) O8 (.slice s9 O8.length d9) wq.drew) := Lib.hid (LG.drew HU.out)
             have r9 := HTD.out.row (List.mem_cons_self ..)
             have c0 : wq.drew.cell? ⟨zb, 0, none⟩ = some (.int .u8 3) := by rw [cell_of_row _ _ _ _ _ _ r9]; rfl
             have c1 : wq.drew.cell? ⟨zb, 1, none⟩ = some (.int .u64 (zt : Int)) := by rw [cell_of_row _ _ _ _ _ _ r9]; rfl
             clear r9
             --R39
             go_region_law (first
              | (go_simp; go_at_call 90; rw [Z8.out]; (with_reducible refine (BZ.out _).mono ?_); rintro e W6 ⟨v6, rfl, o6, k6⟩; have pu := HTD.out.own k6; have ks := Nat.le_trans HTD.out.low.size k6.size; dsimp only)
              | (refine wp_append_row _ (by rfl) (.tmp 186) (.tmp 200) 26 rfl w.heap.size wq.heap.size 4 i0 (.bool false) 1 Tryz.underlying26 hi hz0 hz1 hz2 rfl _ _ _ rfl pu _ _ _ rfl o6 (bls_one _) C3.out C4.out ks ?_; intro v7 W7 own7 hg7 hw7; have N2 := Lib.hid (HTD.out.put k6 own7 hg7 hw7); obtain ⟨a3, cap3, rfl⟩ := own_shape own7; clear own7 hg7 hw7))
             all_goals
              go_wp2_with fail
              go_roundw
             all_goals first | exact ⟨j + 1, hjt, by go_num, by rw [LS.out]; exact N2.out⟩ | (simp [intOf]; omega)
           ·have hje : j = nr := by omega
            subst hje
            have i5 : decide ((j : Int) < (j : Int)) = false := decide_eq_false (by omega)
            have TK : Hid (rst1.take j = rst1) := Lib.hid (List.take_of_length_le (by rw [HNR.out]; exact Nat.le_refl _))
            have FIN : Hid (lay x succ ref r p = O7 ++ bitsOf ((znm x none (rst1.take j)).map (fun v => (Cd.zet zt, v)))) := Lib.hid (by rw [TK.out, LY3.out])
            go_wp2_with fail
            go_ret
            rw [FIN.out]
            exact HU.out.post
end Go.Proofs.YtflnpcgnenhogaaGreatDoor.ls
namespace Go.Proofs.YtflnpcgnenhogaaGreatDoor.ls
open Go.RowKit Go.Proofs.YtflnpcgnenhogaaGreatDoor.own Go.Proofs.YtflnpcgnenhogaaGreatDoor.bit

/-- integers in memory that are only read -/
def IV (w : World) (a : Option Addr) (l : List Nat) : Prop :=
 l.length ≤ 4611686018427387903 ∧ ∀ i (h : i < l.length), ∃ g o, a = some ⟨g, o, none⟩ ∧ g < w.heap.size ∧ w.cell? ⟨g, o + i, none⟩ = some (.int .i64 (l[i] : Int))
end Go.Proofs.YtflnpcgnenhogaaGreatDoor.ls
namespace Go.Proofs.YtflnpcgnenhogaaGreatDoor.ls
open Go.RowKit Go.Proofs.YtflnpcgnenhogaaGreatDoor.own Go.Proofs.YtflnpcgnenhogaaGreatDoor.bit

/-- Rws.call where the call turns blocks that stand beside -/
theorem Rws.call2 {α : Type} {w W : World} {wr : Option (Nat × Bits)} {rd : Option (Nat × ByteArray × Nat)} {f : FuncId} {args : Array Value} {P : α → Ending → World → Prop} {wr' : α → Option (Nat × Bits)} {rd' : α → Option (Nat × ByteArray × Nat)} {F : α → List (Nat × Obj)} : ∀ {rs : List Rw} {K : List (Nat × Obj)}, Rws w wr rd rs K W →
  (∀ Kx, FS w wr rd (Kx ++ K) W → (∀ p ∈ Kx, ∀ q ∈ K, p.1 ≠ q.1) → Calls Tryz.prog f args W fun e w' => ∃ x, P x e w' ∧ (∀ p ∈ F x, (∃ o, (p.1, o) ∈ K) ∨ W.heap.size ≤ p.1) ∧ FS w (wr' x) (rd' x) (Kx ++ F x) w') → Calls Tryz.prog f args W fun e w' => ∃ x, P x e w' ∧ (∀ p ∈ F x, (∃ o, (p.1, o) ∈ K) ∨ W.heap.size ≤ p.1) ∧ Rws w (wr' x) (rd' x) rs (F x) w'
 | [], K, h, hc => (hc [] h (fun p hp => by cases hp)).mono (fun e w' h => h)
 | r :: rs, K, ⟨ka, h1, h2, h3, h4⟩, hc => by
  have f := h4.fs
  refine Calls.mono (Rws.call2 (wr' := wr') (rd' := rd') (F := fun x => ka ++ F x) (P := fun x e w' => P x e w' ∧ ∀ p ∈ F x, (∃ o, (p.1, o) ∈ K) ∨ W.heap.size ≤ p.1) h4 (fun Kx hx hn => ?_)) ?_
  ·rw [← List.append_assoc] at hx
   refine (hc _ hx (fun p hp q hq => ?_)).mono ?_
   ·rcases List.mem_append.1 hp with hp | hp
    ·exact hn p hp q (List.mem_append_right _ hq)
    ·exact fun e => h3 q hq (by rw [← e]; exact h1.2 p hp)
   rintro e w' ⟨x, p1, p2, p3⟩
   refine ⟨x, ⟨p1, p2⟩, fun p hp => ?_, by rw [← List.append_assoc]; exact p3⟩
   rcases List.mem_append.1 hp with hp | hp
   ·exact .inl ⟨p.2, List.mem_append_left _ hp⟩
   ·rcases p2 p hp with ⟨o, ho⟩ | hl
    ·exact .inl ⟨o, List.mem_append_right _ ho⟩
    ·exact .inr hl
  ·rintro e w' ⟨x, ⟨p1, p2⟩, _, p4⟩
   refine ⟨x, p1, p2, ka, h1, Rw.same h2 h1 f p4.fs, fun p hp e => ?_, p4⟩
   rcases p2 p hp with ⟨o, ho⟩ | hl
   ·exact h3 _ ho e
   ·obtain ⟨o, ho⟩ := h1.1 p.1 e.symm
    have := lt_of_block (f.row (b := p.1) (o := o) (List.mem_append_left _ ho))
    omega
section
variable {w W W2 : World} {b : Bp} {T T' : List Tk} {B L : Bits} {D E qb D' E' kb wb : Nat} {K K' : List (Nat × Obj)}
end
end Go.Proofs.YtflnpcgnenhogaaGreatDoor.ls
namespace Go.Proofs.YtflnpcgnenhogaaGreatDoor.ls
open Go.RowKit Go.Proofs.YtflnpcgnenhogaaGreatDoor.own Go.Proofs.YtflnpcgnenhogaaGreatDoor.bit

def rdRow (aB : Option Addr) (dB : Nat) (B : Bits) (p : Nat) : Obj := .cells #[.slice aB B.length dB, .int .i64 (p : Int)] 29 (0, 0)
def tkRow (rb : Nat) (bad : Bool) : Obj := .cells #[.pointer (some ⟨rb, 0, none⟩), .bool bad] 155 (0, 0)
/-- a taker and its reader; rows of a call's own, blocks beside -/
def DTR (w : World) (wr : Option (Nat × Bits)) (rd : Option (Nat × ByteArray × Nat)) (rb : Nat) (aB : Option Addr) (dB : Nat) (B : Bits) (tb p : Nat) (bad : Bool) (rs : List Rw) (K : List (Nat × Obj)) (W : World) : Prop :=
 Rws w wr rd rs ((rb, rdRow aB dB B p) :: (tb, tkRow rb bad) :: K) W ∧ (∀ q ∈ K, q.1 ≠ rb ∧ q.1 ≠ tb) ∧ tb ≠ rb ∧ BSt K aB B ∧ p ≤ B.length ∧ B.length ≤ dB ∧ B.length ≤ 4611686018427387903 ∧ (aB = none ∧ dB = 0 ∨ ∃ g o, aB = some ⟨g, o, none⟩)
section
variable {w W W2 : World} {wr : Option (Nat × Bits)} {rd : Option (Nat × ByteArray × Nat)} {rb : Nat} {aB : Option Addr} {dB : Nat} {B : Bits} {tb p : Nat} {bad : Bool} {rs : List Rw} {K K' : List (Nat × Obj)}
theorem DTR.next (h : DTR w wr rd rb aB dB B tb p bad rs K W) (k : Below W.heap.size W W2) : DTR w wr rd rb aB dB B tb p bad rs K W2 := ⟨h.1.next k, h.2⟩
theorem DTR.drew (h : DTR w wr rd rb aB dB B tb p bad rs K W) : DTR w wr rd rb aB dB B tb p bad rs K W.drew := h.next (Below.drew (Below.refl _ _))
theorem DTR.below (h : DTR w wr rd rb aB dB B tb p bad rs K W) : Below w.heap.size w W := h.1.below
theorem DTR.has (h : DTR w wr rd rb aB dB B tb p bad rs K W) {q : Nat × Obj} (hq : q ∈ K) : W.heap[q.1]? = some q.2 := h.1.has (List.mem_cons_of_mem _ (List.mem_cons_of_mem _ hq))
theorem DTR.cells (h : DTR w wr rd rb aB dB B tb p bad rs K W) : W.cell? ⟨tb, 0, none⟩ = some (.pointer (some ⟨rb, 0, none⟩)) ∧ W.cell? ⟨tb, 1, none⟩ = some (.bool bad) ∧ ∀ j, W.frozen? ⟨tb, j, none⟩ = false := by
 have r : W.heap[tb]? = some (tkRow rb bad) := h.1.has (p := (tb, tkRow rb bad)) (List.mem_cons_of_mem _ (List.mem_cons_self ..))
 unfold tkRow at r
 exact ⟨by rw [cell_of_row _ _ _ _ _ _ r]; rfl, by rw [cell_of_row _ _ _ _ _ _ r]; rfl, fun j => frozen_of_row W tb j _ _ r⟩
/-- one taker alone, other blocks among those beside -/
theorem DTR.tk {Kx : List (Nat × Obj)} (h : DTR w wr rd rb aB dB B tb p bad rs K W) (f : FS w wr rd (Kx ++ ((rb, rdRow aB dB B p) :: (tb, tkRow rb bad) :: K)) W) (hn : ∀ q ∈ Kx, ∀ q' ∈ (rb, rdRow aB dB B p) :: (tb, tkRow rb bad) :: K, q.1 ≠ q'.1) : DTk w wr rd rb aB dB B tb p bad (Kx ++ K) W := by
 obtain ⟨-, h2, h3, h4, h5⟩ := h
 refine ⟨⟨f.sub (fun q hq => ?_), fun q hq => ?_, h4.more (fun q hq => by simp [hq]), h5⟩, fun q hq => ?_, h4.more (fun q hq => List.mem_append_right _ hq)⟩
 ·simp only [List.mem_cons, List.mem_append] at hq ⊢
  rcases hq with hq | hq | hq | hq
  ·exact .inr (.inl hq)
  ·exact .inr (.inr (.inl hq))
  ·exact .inl hq
  ·exact .inr (.inr (.inr hq))
 ·simp only [List.mem_cons, List.mem_append] at hq
  rcases hq with rfl | hq | hq
  ·exact h3
  ·exact hn q hq (rb, rdRow aB dB B p) (List.mem_cons_self ..)
  ·exact (h2 q hq).1
 ·rcases List.mem_append.1 hq with hq | hq
  ·exact hn q hq (tb, tkRow rb bad) (List.mem_cons_of_mem _ (List.mem_cons_self ..))
  ·exact (h2 q hq).2
theorem DTk.back {Kx : List (Nat × Obj)} (h : DTk w wr rd rb aB dB B tb p bad (Kx ++ K) W) : FS w wr rd (Kx ++ ((rb, rdRow aB dB B p) :: (tb, tkRow rb bad) :: K)) W ∧ p ≤ B.length :=
 ⟨h.1.1.sub (fun q hq => by
  simp only [List.mem_cons, List.mem_append] at hq ⊢
  rcases hq with hq | hq | hq | hq
  ·exact .inr (.inr (.inl hq))
  ·exact .inl hq
  ·exact .inr (.inl hq)
  ·exact .inr (.inr (.inr hq))), h.1.2.2.2.1⟩
theorem DTk.rows (h : DTk w wr rd rb aB dB B tb p bad K W) : DTR w wr rd rb aB dB B tb p bad [] K W :=
 ⟨h.1.1, fun q hq => ⟨h.1.2.1 q (List.mem_cons_of_mem _ hq), h.2.1 q hq⟩, h.ne, h.2.2, h.1.2.2.2⟩
theorem DTR.lone (h : DTR w wr rd rb aB dB B tb p bad rs K W) : DTk w wr rd rb aB dB B tb p bad K W :=
 DTR.tk (Kx := []) h h.1.fs (fun q hq => by cases hq)
theorem DTR.mark (h : DTR w wr rd rb aB dB B tb p bad rs K W) (b : Bool) : DTR w wr rd rb aB dB B tb p b rs K (W.setCell ⟨tb, 1, none⟩ (.bool b)) := by
 obtain ⟨h1, h2, h3, h4, h5⟩ := h
 have f := (h1.sub (K' := (tb, .cells #[.pointer (some ⟨rb, 0, none⟩), .bool bad] 155 (0, 0)) :: (rb, rdRow aB dB B p) :: K) (fun q hq => by
  simp only [List.mem_cons] at hq ⊢
  rcases hq with hq | hq | hq
  ·exact .inr (.inl hq)
  ·exact .inl hq
  ·exact .inr (.inr hq))).store (j := 1) (.bool b) (fun q hq => by
  rcases List.mem_cons.1 hq with rfl | hq
  ·exact fun e => h3 e.symm
  ·exact (h2 q hq).2)
 refine ⟨f.sub (fun q hq => ?_), h2, h3, h4, h5⟩
 simp only [List.mem_cons] at hq ⊢
 rcases hq with hq | hq | hq
 ·exact .inr (.inl hq)
 ·exact .inl hq
 ·exact .inr (.inr hq)
theorem DTR.lift {T : TypeId} (h : DTR w wr rd rb aB dB B tb p bad rs K W) : DTR w wr rd rb aB dB B tb p bad (⟨T, .slice none 0 0, []⟩ :: rs) K W := ⟨h.1.lift, h.2⟩
theorem DTR.own {r : Rw} (h : DTR w wr rd rb aB dB B tb p bad (r :: rs) K W) : r.owned W := h.1.own
theorem DTR.push {v v' : Value} {T : TypeId} {xs xs' : List Value} (h : DTR w wr rd rb aB dB B tb p bad (⟨T, v, xs⟩ :: rs) K W) (own : W2.ownsRow 0 T 1 v' xs'.length xs') (hg : W.grownBy W2 v.ownBlock) (hw : v'.ownBlock = v.ownBlock ∨ v'.ownBlock = some W.heap.size) : DTR w wr rd rb aB dB B tb p bad (⟨T, v', xs'⟩ :: rs) K W2 := ⟨h.1.push own hg hw, h.2⟩
/-- what a taker's answer leaves -/
def DTakeR (w : World) (wr : Option (Nat × Bits)) (rd : Option (Nat × ByteArray × Nat)) (rb : Nat) (aB : Option Addr) (dB : Nat) (B : Bits) (tb : Nat) (rs : List Rw) (K : List (Nat × Obj)) (z : Option (Nat × Nat)) (most : Nat) (bad : Bool) (e : Ending) (w' : World) : Prop :=
 ∃ (v p' : Nat) (bad' : Bool), e = .returned (.int .i64 (v : Int)) ∧ TakeD z most bad v p' bad' ∧ DTR w wr rd rb aB dB B tb p' bad' rs K w'
theorem DTR.take (h : DTR w wr rd rb aB dB B tb p bad rs K W) (c : Cd) (hc : c.ok) (most : Nat) (hm : most ≤ 1000000) :
  Calls Tryz.prog 87 #[.pointer (some ⟨tb, 0, none⟩), cdV c, .int .i64 (most : Int)] W (DTakeR w wr rd rb aB dB B tb rs K (ls.tk B c most p) most bad) := by
 refine (Rws.call2 (α := Nat × Nat × Bool) (P := fun x e w' => e = .returned (.int .i64 (x.1 : Int)) ∧ TakeD (ls.tk B c most p) most bad x.1 x.2.1 x.2.2 ∧ x.2.1 ≤ B.length) (wr' := fun _ => wr) (rd' := fun _ => rd)
  (F := fun x => (rb, rdRow aB dB B x.2.1) :: (tb, tkRow rb x.2.2) :: K) h.1 (fun Kx hx hn => ?_)).mono ?_
 ·refine ((h.tk hx hn).take c hc most hm).mono ?_
  rintro e w' ⟨v, p', bad', rfl, h1, h2⟩
  have h3 := h2.back
  refine ⟨(v, p', bad'), ⟨rfl, h1, h3.2⟩, fun q hq => ?_, h3.1⟩
  simp only [List.mem_cons] at hq
  rcases hq with rfl | rfl | hq
  ·exact .inl ⟨_, List.mem_cons_self ..⟩
  ·exact .inl ⟨_, List.mem_cons_of_mem _ (List.mem_cons_self ..)⟩
  ·exact .inl ⟨q.2, List.mem_cons_of_mem _ (List.mem_cons_of_mem _ hq)⟩
 ·rintro e w' ⟨⟨v, p', bad'⟩, ⟨rfl, h1, h2⟩, _, h3⟩
  exact ⟨v, p', bad', rfl, h1, h3, h.2.1, h.2.2.1, h.2.2.2.1, h2, h.2.2.2.2.2⟩
end
end Go.Proofs.YtflnpcgnenhogaaGreatDoor.ls
namespace Go.Proofs.YtflnpcgnenhogaaGreatDoor.ls
open Go.RowKit Go.Proofs.YtflnpcgnenhogaaGreatDoor.own Go.Proofs.YtflnpcgnenhogaaGreatDoor.bit

theorem u32V_length (l : List Nat) : (u32V l).length = l.length := by unfold u32V; rw [List.length_map]
theorem tk_less {B : Bits} {c : Cd} {L m a v e : Nat} (h : tk B c L a = some (v, e)) (hv : v ≤ m) : tk B c m a = some (v, e) := by
 unfold tk at h ⊢
 cases hr : rd c (B.drop a) with
 | none => rw [hr] at h; cases h
 | some q =>
  rw [hr] at h
  simp only [Option.bind_some] at h ⊢
  split at h
  ·cases h; exact if_pos hv
  ·cases h
theorem tk_over {B : Bits} {c : Cd} {L m a v e : Nat} (h : tk B c L a = some (v, e)) (hv : m < v) : tk B c m a = none := by
 unfold tk at h ⊢
 cases hr : rd c (B.drop a) with
 | none => rfl
 | some q =>
  rw [hr] at h
  simp only [Option.bind_some] at h ⊢
  split at h
  ·cases h; exact if_neg (by omega)
  ·cases h
theorem tk_none {B : Bits} {c : Cd} {L m a : Nat} (h : tk B c L a = none) (hm : m ≤ L) : tk B c m a = none := by
 unfold tk at h ⊢
 cases hr : rd c (B.drop a) with
 | none => rfl
 | some q =>
  rw [hr] at h
  simp only [Option.bind_some] at h ⊢
  split at h
  ·cases h
  ·exact if_neg (by omega)
theorem DTR.less {w W : World} {wr : Option (Nat × Bits)} {rd : Option (Nat × ByteArray × Nat)} {rb : Nat} {aB : Option Addr} {dB : Nat} {B : Bits} {tb p : Nat} {bad : Bool} {rs : List Rw} {K K' : List (Nat × Obj)} (h : DTR w wr rd rb aB dB B tb p bad rs K W) (hs : ∀ q ∈ K', q ∈ K) (hb : BSt K' aB B) : DTR w wr rd rb aB dB B tb p bad rs K' W :=
 ⟨h.1.sub (fun q hq => by
  simp only [List.mem_cons] at hq ⊢
  rcases hq with hq | hq | hq
  ·exact .inl hq
  ·exact .inr (.inl hq)
  ·exact .inr (.inr (hs q hq))), fun q hq => h.2.1 q (hs q hq), h.2.2.1, hb, h.2.2.2.2⟩
/-- what a call answers that takes a list -/
def ListD (P : List Nat → Nat → Bool → Prop) (w : World) (wr : Option (Nat × Bits)) (rd : Option (Nat × ByteArray × Nat)) (rb : Nat) (aB : Option Addr) (dB : Nat) (B : Bits) (tb : Nat) (K : List (Nat × Obj)) (e : Ending) (w' : World) : Prop :=
 ∃ (v : Value) (l : List Nat) (p' : Nat) (bad : Bool), e = .returned v ∧ P l p' bad ∧ DTR w wr rd rb aB dB B tb p' bad [⟨77, v, u32V l⟩] K w'
/-- what stands in a round of copies -/
def CopL (F : Option (List Nat × Nat)) (B : Bits) (ref : List Nat) (z i k : Nat) (l : List Nat) (p : Nat) (bad : Bool) : Prop :=
 i ≤ z ∧ k ≤ ref.length ∧ l.length ≤ k ∧ (∀ v ∈ l, v < 65536) ∧ (bad = true → F = none) ∧ (bad = false → F = (cpy B (z - i) i (ref.drop k) p).map fun t => (if z % 2 = 0 then l ++ t.1 ++ t.2.1 else l ++ t.1, t.2.2))
theorem cpy_none {B : Bits} {c i : Nat} {ref : List Nat} {p v e L : Nat} (h : tk B .gam L p = some (v, e)) (hv : ref.length < v + min i 1) : cpy B (c + 1) i ref p = none := by
 unfold cpy
 by_cases h2 : v ≤ ref.length
 ·rw [tk_less h h2]
  exact if_pos hv
 ·rw [tk_over h (by omega)]
  rfl
theorem CopL.no {F : Option (List Nat × Nat)} {B : Bits} {ref : List Nat} {z i k p v p2 : Nat} {l : List Nat} {bad2 : Bool} (h : CopL F B ref z i k l p false) (hi : i < z) (ht : TakeD (tk B .gam ref.length p) ref.length false v p2 bad2) (hv : ref.length - k < v + min i 1) : F = none := by
 obtain ⟨h1, h2, h3, h4, h5, h6⟩ := h
 obtain ⟨t1, t2, t3⟩ := ht
 have e := h6 rfl
 rw [show z - i = (z - i - 1) + 1 by omega] at e
 cases hk : tk B .gam ref.length p with
 | none =>
  rw [e]
  have : cpy B (z - i - 1 + 1) i (ref.drop k) p = none := by
   unfold cpy
   rw [tk_none hk (by rw [List.length_drop]; omega)]
   rfl
  rw [this]
  rfl
 | some q =>
  obtain ⟨rfl, rfl, -⟩ := t1 q hk rfl
  rw [e, cpy_none (e := q.2) (v := q.1) hk (by rw [List.length_drop]; exact hv)]
  rfl
theorem CopL.step {F : Option (List Nat × Nat)} {B : Bits} {ref : List Nat} {z i k p v p2 : Nat} {l : List Nat} {bad2 : Bool} (h : CopL F B ref z i k l p false) (hb : ∀ v ∈ ref, v < 65536) (hi : i < z) (ht : TakeD (tk B .gam ref.length p) ref.length false v p2 bad2) (hv : v + min i 1 ≤ ref.length - k) :
  CopL F B ref z (i + 1) (k + (v + min i 1)) (if i % 2 = 0 then l ++ (ref.drop k).take (v + min i 1) else l) p2 bad2 := by
 obtain ⟨h1, h2, h3, h4, h5, h6⟩ := h
 obtain ⟨t1, t2, t3⟩ := ht
 have e := h6 rfl
 rw [show z - i = (z - (i + 1)) + 1 by omega] at e
 refine ⟨by omega, by omega, ?_, ?_, fun hb2 => ?_, fun hb2 => ?_⟩
 ·split
  ·rw [List.length_append, List.length_take, List.length_drop]; omega
  ·omega
 ·intro x hx
  split at hx
  ·rcases List.mem_append.1 hx with hx | hx
   ·exact h4 x hx
   ·exact hb x (List.mem_of_mem_drop (List.mem_of_mem_take hx))
  ·exact h4 x hx
 ·cases hk : tk B .gam ref.length p with
  | some q => have := (t1 q hk rfl).2.2; rw [hb2] at this; cases this
  | none =>
   have : cpy B (z - (i + 1) + 1) i (ref.drop k) p = none := by
    unfold cpy
    rw [tk_none hk (by rw [List.length_drop]; omega)]
    rfl
   rw [e, this]
   rfl
 ·cases hk : tk B .gam ref.length p with
  | none => have := (t2 (.inr hk)).2; rw [hb2] at this; cases this
  | some q =>
   obtain ⟨rfl, rfl, -⟩ := t1 q hk rfl
   have hq : tk B .gam (ref.drop k).length p = some (q.1, q.2) := tk_less (L := ref.length) hk (by rw [List.length_drop]; omega)
   have ec : cpy B (z - (i + 1) + 1) i (ref.drop k) p = (cpy B (z - (i + 1)) (i + 1) ((ref.drop k).drop (q.1 + min i 1)) q.2).map fun t => ((if i % 2 = 0 then (ref.drop k).take (q.1 + min i 1) else []) ++ t.1, t.2) := by
    rw [cpy, hq]
    exact if_neg (by rw [List.length_drop]; omega)
   rw [e, ec, List.drop_drop, Option.map_map]
   refine congrArg (fun f => Option.map f _) (funext fun t => ?_)
   by_cases h0 : i % 2 = 0
   ·rw [if_pos h0]
    simp only [Function.comp, if_pos h0, List.append_assoc]
   ·rw [if_neg h0]
    simp only [Function.comp, if_neg h0, List.nil_append]
theorem CopL.fin {F : Option (List Nat × Nat)} {B : Bits} {ref : List Nat} {z i k p : Nat} {l : List Nat} {bad : Bool} (h : CopL F B ref z i k l p bad) (hb : ∀ v ∈ ref, v < 65536) (he : i = z ∨ bad = true) :
  CopP F ref.length (if z % 2 = 0 then l ++ ref.drop k else l) p bad := by
 obtain ⟨h1, h2, h3, h4, h5, h6⟩ := h
 refine ⟨?_, ?_, h5, fun hbd => ?_⟩
 ·split
  ·rw [List.length_append, List.length_drop]; omega
  ·omega
 ·intro x hx
  split at hx
  ·rcases List.mem_append.1 hx with hx | hx
   ·exact h4 x hx
   ·exact hb x (List.mem_of_mem_drop hx)
  ·exact h4 x hx
 ·rcases he with rfl | he
  ·rw [h6 hbd, Nat.sub_self]
   show some ((if i % 2 = 0 then l ++ [] ++ ref.drop k else l ++ []), p) = some (_, p)
   by_cases h0 : i % 2 = 0
   ·rw [if_pos h0, if_pos h0, List.append_nil]
   ·rw [if_neg h0, if_neg h0, List.append_nil]
  ·rw [hbd] at he; cases he
/-- the state of a round -/
def CopS (w : World) (wr : Option (Nat × Bits)) (rd : Option (Nat × ByteArray × Nat)) (rb : Nat) (aB : Option Addr) (dB : Nat) (B : Bits) (tb : Nat) (K : List (Nat × Obj)) (F : Option (List Nat × Nat)) (ref : List Nat) (z : Nat) (v7 v8 v9 : Value) (wl : World) : Prop :=
 ∃ (i k : Nat) (l : List Nat) (p' : Nat) (bad : Bool), v8 = .int .i64 (k : Int) ∧ v9 = .int .i64 (i : Int) ∧ CopL F B ref z i k l p' bad ∧ DTR w wr rd rb aB dB B tb p' bad [⟨77, v7, u32V l⟩] K wl
set_option maxRecDepth 100000 in
set_option maxHeartbeats 6400000 in
theorem dcopies_some {w W : World} {wr : Option (Nat × Bits)} {rd : Option (Nat × ByteArray × Nat)} {rb : Nat} {aB : Option Addr} {dB : Nat} {B : Bits} {tb p : Nat} {K : List (Nat × Obj)} (h : DTk w wr rd rb aB dB B tb p false K W)
  (ad : Addr) (ref : List Nat) (cap : Nat) (hcap : ref.length ≤ cap) (hlen : ref.length ≤ 65536) (hb : ∀ v ∈ ref, v < 65536) (hA : Seen w K (some ad) ref) :
  Calls Tryz.prog 84 #[.pointer (some ⟨tb, 0, none⟩), .slice (some ad) ref.length cap] W (ListD (CopP (copies B ref p) ref.length) w wr rd rb aB dB B tb K) := by
 obtain ⟨j0, hj, hj0, hj1, hj2⟩ := info_parts Tryz.infoU32
 have HB6 := Lib.hid h.2.2
 have h9 := h.add #[.int .u8 1, .int .u64 0] 104
 obtain ⟨cb, hcb⟩ : ∃ z, W.heap.size = z := ⟨_, rfl⟩
 rw [hcb] at h9
 obtain ⟨K2, hK2⟩ : ∃ K', (cb, Obj.cells #[.int .u8 1, .int .u64 0] 104 (0, 0)) :: K = K' := ⟨_, rfl⟩
 rw [hK2] at h9
 have H0 := Lib.hid (h9.rows.lift (T := 77))
 have CC : Hid (∀ W' p' bad rs, DTR w wr rd rb aB dB B tb p' bad rs K2 W' → W'.cell? ⟨cb, 0, none⟩ = some (.int .u8 1) ∧ W'.cell? ⟨cb, 1, none⟩ = some (.int .u64 0)) := Lib.hid (fun W' p' bad rs h => by
  have r : W'.heap[cb]? = some (.cells #[.int .u8 1, .int .u64 0] 104 (0, 0)) := h.has (q := (cb, _)) (by rw [← hK2]; exact List.mem_cons_self ..)
  exact ⟨by rw [cell_of_row _ _ _ _ _ _ r]; rfl, by rw [cell_of_row _ _ _ _ _ _ r]; rfl⟩)
 have LS : Hid (∀ W' p' bad rs, DTR w wr rd rb aB dB B tb p' bad rs K2 W' → DTR w wr rd rb aB dB B tb p' bad rs K W') := Lib.hid (fun W' p' bad rs h => h.less (fun q hq => by rw [← hK2]; exact List.mem_cons_of_mem _ hq) HB6.out)
 have HA := Lib.hid (And.intro hA hb)
 have LVS := Lib.hid (fun W' p' bad rs (h : DTR w wr rd rb aB dB B tb p' bad rs K2 W') => hA W' h.below (fun q hq => (LS.out _ _ _ _ h).has hq))
 have TT : Hid (∀ W' p' bad rs (_ : DTR w wr rd rb aB dB B tb p' bad rs K2 W') (mi : Int) (most : Nat) (_ : mi = (most : Int)) (_ : most ≤ 1000000), Calls Tryz.prog 87 #[.pointer (some ⟨tb, 0, none⟩), cdV .gam, .int .i64 mi] W' (DTakeR w wr rd rb aB dB B tb rs K2 (tk B .gam most p') most bad)) := Lib.hid (fun W' p' bad rs h mi most e hm => by
  subst e
  exact h.take .gam trivial most hm)
 obtain ⟨F, hF⟩ : ∃ F, copies B ref p = F := ⟨_, rfl⟩
 have HF : Hid (F = (tk B .gam (ref.length + 1) p).bind fun q => (cpy B q.1 0 ref q.2).map fun t => (if q.1 % 2 = 0 then t.1 ++ t.2.1 else t.1, t.2.2)) := Lib.hid (by rw [← hF]; rfl)
 rw [hF]
 unfold cdV at TT
 obtain ⟨n0, hn0⟩ : ∃ n, ref.length = n := ⟨_, rfl⟩
 have HN := Lib.hid hn0
 rw [hn0] at hcap hlen HF ⊢
 have T1 := Lib.hid (TT.out _ _ _ _ H0.out ((n0 : Int) + 1) (n0 + 1) (by omega) (by omega))
 obtain ⟨g0, g1⟩ := CC.out _ _ _ _ H0.out
 clear h hA hF hb hn0 h9 hK2
 go_enter Tryz.func84, Tryz.ntmps84
 go_wp2_with fail
 generalize World.alloc W _ = W0 at H0 T1 g0 g1 ⊢
 with_reducible refine T1.out.mono ?_
 rintro e w1 ⟨z, p1, bad1, rfl, hp, h1⟩
 have C1 : Hid (CopL F B ref z 0 0 [] p1 bad1) := Lib.hid (by
  obtain ⟨q1, q2, q3⟩ := hp
  refine ⟨Nat.zero_le _, Nat.zero_le _, Nat.le_refl _, fun v hv => (by cases hv), fun hb => ?_, fun hb => ?_⟩
  ·cases ht : tk B .gam (n0 + 1) p with
   | none => rw [HF.out, ht]; rfl
   | some q => have := (q1 q ht rfl).2.2; rw [hb] at this; cases this
  ·cases ht : tk B .gam (n0 + 1) p with
   | none => have := (q2 (.inr ht)).2; rw [hb] at this; cases this
   | some q =>
    obtain ⟨rfl, rfl, -⟩ := q1 q ht rfl
    rw [HF.out, ht]
    rfl)
 have hz : z ≤ n0 + 1 := hp.2.2
 have H1 := Lib.hid h1
 obtain ⟨g0, g1⟩ := CC.out _ _ _ _ h1
 clear hp h1 T1 HF H0
 go_wp2_with fail
 go_loopw [7, 8, 9] (fun v7 v8 v9 wl => CopS w wr rd rb aB dB B tb K2 F ref z v7 v8 v9 wl) (fun _ _ v9 _ => z - (intOf v9).toNat)
 case atStart => exact ⟨0, 0, [], p1, bad1, rfl, rfl, C1.out, H1.out⟩
 case round =>
  rename World => wl
  obtain ⟨i, k, l, p', bad, rfl, rfl, hC, hD⟩ := hrel
  have CL := Lib.hid hC
  have D := Lib.hid hD
  obtain ⟨c1, c2, c3⟩ := hD.cells
  obtain ⟨g0, g1⟩ := CC.out _ _ _ _ hD
  have hi : i ≤ z := hC.1
  have hk : k ≤ n0 := by have := hC.2.1; rw [HN.out] at this; exact this
  clear hC hD
  by_cases hlt : i < z
  ·cases bad with
   | false =>
    --A
    have T2 := Lib.hid (TT.out _ _ _ _ D.out (n0 : Int) n0 rfl (by omega))
    have i1 : decide ((i : Int) < (z : Int)) = true := decide_eq_true (by omega)
    go_wp2_with fail
    with_reducible refine T2.out.mono ?_
    rintro e w2 ⟨v, p2, bad2, rfl, ht, h2⟩
    have D2 := Lib.hid h2
    have HT2 : Hid (TakeD (tk B .gam ref.length p') ref.length false v p2 bad2) := Lib.hid (by rw [HN.out]; exact ht)
    have hv9 : v ≤ n0 := ht.2.2
    obtain ⟨d1, d2, d3⟩ := h2.cells
    obtain ⟨g0, g1⟩ := CC.out _ _ _ _ h2
    clear ht h2 T2 c1 c2 c3 D
    obtain ⟨n1, hn1⟩ : ∃ n, v + min i 1 = n := ⟨_, rfl⟩
    have ws : IntKind.i64.wrap ((n0 : Int) - (k : Int)) = (n0 : Int) - (k : Int) := IntWalk.i64_in _ (by omega)
    by_cases hi0 : 0 < i
    ·have w1v : IntKind.i64.wrap ((v : Int) + 1) = (n1 : Int) := by rw [IntWalk.i64_in _ (by omega)]; omega
     have hn9 : n1 ≤ n0 + 1 := by omega
     have i0 : decide ((0 : Int) < (i : Int)) = true := decide_eq_true (by omega)
     obtain ⟨E, hE⟩ : ∃ z, k + n1 = z := ⟨_, rfl⟩
     have wk : IntKind.i64.wrap ((k : Int) + (n1 : Int)) = (E : Int) := by rw [IntWalk.i64_in _ (by omega)]; omega
     by_cases hov : n0 - k < n1
     ·have o1 : decide ((n0 : Int) - (k : Int) < (n1 : Int)) = true := decide_eq_true (by omega)
      have FN := Lib.hid (CL.out.no hlt HT2.out (by rw [HN.out, hn1]; exact hov))
      have D3 := Lib.hid ((D2.out.mark true).lone.rows.lift (T := 77))
      have d3 := d3 1
      clear HT2 hn1
      go_wp2_with fail
      exact bodyPost_ret (v := .slice none 0 0) (by simp [results, Tryz.results84, go_sem]) rfl ⟨.slice none 0 0, [], p2, true, rfl, ⟨Nat.zero_le _, fun v hv => (by cases hv), fun _ => FN.out, fun h => (by cases h)⟩, LS.out _ _ _ _ D3.out⟩
     ·have o1 : decide ((n0 : Int) - (k : Int) < (n1 : Int)) = false := decide_eq_false (by omega)
      have ST : Hid (CopL F B ref z (i + 1) E (if i % 2 = 0 then l ++ (ref.drop k).take n1 else l) p2 bad2) := Lib.hid (by
       have h := CL.out.step HA.out.2 hlt HT2.out (by rw [HN.out, hn1]; omega)
       rw [hn1, hE] at h
       exact h)
      clear HT2 hn1 d1 d2 d3
      obtain ⟨r2, hr2⟩ : ∃ r, i % 2 = r := ⟨_, rfl⟩
      have t2 : (i : Int).tmod 2 = (r2 : Int) := by rw [Int.tmod_eq_emod_of_nonneg (by omega)]; omega
      have HR2 := Lib.hid hr2
      clear hr2
      by_cases hz2 : r2 = 0
      ·subst hz2
       have A6 := Lib.hid (LVS.out _ _ _ _ D2.out)
       obtain ⟨m7, hm7⟩ : ∃ z, l.length = z := ⟨_, rfl⟩
       have hl9 : m7 ≤ n0 := by have := CL.out.2.2.1; omega
       have OWN : Hid (w2.ownsRow 0 77 1 u7 m7 (u32V l)) := Lib.hid (by
        have h := D2.out.own
        unfold Rw.owned at h
        dsimp only at h
        rw [u32V_length, hm7] at h
        exact h)
       obtain ⟨s7, c7, e7⟩ := own_shape OWN.out
       subst e7
       obtain ⟨M, hM⟩ : ∃ M, (ref.drop k).take n1 = M := ⟨_, rfl⟩
       obtain ⟨mm, hmm⟩ : ∃ m, M.length = m := ⟨_, rfl⟩
       have hmm9 : mm = E - k := by rw [← hmm, ← hM]; rw [List.length_take, List.length_drop, HN.out]; omega
       have HMM := Lib.hid hmm
       have HMQ := Lib.hid (And.intro hM hmm9)
       have C3 : Hid (m7 + mm ≤ maxLen) := Lib.hid (by simp only [maxLen]; omega)
       have C4 : Hid ((m7 + mm) * 4 ≤ 140737488355328) := Lib.hid (by omega)
       have HM7 := Lib.hid hm7
       rw [HR2.out, if_pos rfl, hM] at ST
       clear hm7 hmm
       have b1 : (0 : Int) ≤ (k : Int) := by omega
       have b2 : (k : Int) ≤ (E : Int) := by omega
       have b3 : (E : Int) ≤ (cap : Int) := by omega
       have b4 : E ≤ cap := by omega
       have b5 : k ≤ E := by omega
       clear hE
       subst hmm9
       by_cases hck : cap = k
       ·subst hck
        have hM0 : M = [] := List.eq_nil_of_length_eq_zero (by have := HMM.out; omega)
        subst hM0
        have C30 : Hid (m7 + 0 ≤ maxLen) := Lib.hid (by have := C3.out; omega)
        have C40 : Hid ((m7 + 0) * 4 ≤ 140737488355328) := Lib.hid (by have := C4.out; omega)
        go_wp2_with (at_builtin; refine wpList_append_lv _ rfl _ _ 34 rfl 0 77 j0 _ 4 Tryz.underlying34 hj hj0 hj1 hj2 rfl _ m7 _ rfl OWN.out (some ad) 0 0 ([] : List Nat) rfl rfl LV.nil C30.out C40.out (Nat.zero_le _) ?_)
        intro v8 w8 own8 hg8 hw8
        have D8 := Lib.hid (D2.out.push (v' := v8) (xs' := u32V (l ++ [])) (by rw [u32V_length, List.length_append, HM7.out, u32V_append]; exact own8) hg8 hw8)
        clear own8 hg8 hw8 OWN
        go_wp2_with fail
        go_roundw
        case rel => exact ⟨i + 1, E, l ++ [], p2, bad2, by go_num, by go_num, ST.out, D8.out⟩
        case measure => simp [intOf]; try omega
       ·have A7 : Hid (LV w2 (some (ad.add k)) M) := Lib.hid (by
         have h := A6.out.cut (k := k) (by rw [HN.out]; exact hcap) (by rw [HN.out]; exact hk)
         rw [if_neg hck] at h
         rw [← HMQ.out.1]
         exact h.take n1)
        go_wp2_with (at_builtin; refine wpList_append_lv _ rfl _ _ 34 rfl 0 77 j0 _ 4 Tryz.underlying34 hj hj0 hj1 hj2 rfl _ m7 _ rfl OWN.out (some (ad.add k)) (E - k) (cap - k) M rfl HMM.out A7.out C3.out C4.out (Nat.zero_le _) ?_)
        intro v8 w8 own8 hg8 hw8
        have D8 := Lib.hid (D2.out.push (v' := v8) (xs' := u32V (l ++ M)) (by rw [u32V_length, List.length_append, HM7.out, HMM.out, u32V_append]; exact own8) hg8 hw8)
        clear own8 hg8 hw8 OWN
        go_wp2_with fail
        go_roundw
        case rel => exact ⟨i + 1, E, l ++ M, p2, bad2, by go_num, by go_num, ST.out, D8.out⟩
        case measure => simp [intOf]; try omega
      ·have i2 : ((r2 : Int) == 0) = false := beq_eq_false_iff_ne.2 (by omega)
       rw [HR2.out, if_neg hz2] at ST
       go_wp2_with fail
       go_roundw
       case rel => exact ⟨i + 1, E, l, p2, bad2, by go_num, by go_num, ST.out, D2.out⟩
       case measure => simp [intOf]; try omega
    ·have hvn : n1 = v := by omega
     subst hvn
     have i0 : decide ((0 : Int) < (i : Int)) = false := decide_eq_false (by omega)
     obtain ⟨E, hE⟩ : ∃ z, k + n1 = z := ⟨_, rfl⟩
     have wk : IntKind.i64.wrap ((k : Int) + (n1 : Int)) = (E : Int) := by rw [IntWalk.i64_in _ (by omega)]; omega
     by_cases hov : n0 - k < n1
     ·have o1 : decide ((n0 : Int) - (k : Int) < (n1 : Int)) = true := decide_eq_true (by omega)
      have FN := Lib.hid (CL.out.no hlt HT2.out (by rw [HN.out, hn1]; exact hov))
      have D3 := Lib.hid ((D2.out.mark true).lone.rows.lift (T := 77))
      have d3 := d3 1
      clear HT2 hn1
      go_wp2_with fail
      exact bodyPost_ret (v := .slice none 0 0) (by simp [results, Tryz.results84, go_sem]) rfl ⟨.slice none 0 0, [], p2, true, rfl, ⟨Nat.zero_le _, fun v hv => (by cases hv), fun _ => FN.out, fun h => (by cases h)⟩, LS.out _ _ _ _ D3.out⟩
     ·have o1 : decide ((n0 : Int) - (k : Int) < (n1 : Int)) = false := decide_eq_false (by omega)
      have ST : Hid (CopL F B ref z (i + 1) E (if i % 2 = 0 then l ++ (ref.drop k).take n1 else l) p2 bad2) := Lib.hid (by
       have h := CL.out.step HA.out.2 hlt HT2.out (by rw [HN.out, hn1]; omega)
       rw [hn1, hE] at h
       exact h)
      clear HT2 hn1 d1 d2 d3
      obtain ⟨r2, hr2⟩ : ∃ r, i % 2 = r := ⟨_, rfl⟩
      have t2 : (i : Int).tmod 2 = (r2 : Int) := by rw [Int.tmod_eq_emod_of_nonneg (by omega)]; omega
      have HR2 := Lib.hid hr2
      clear hr2
      by_cases hz2 : r2 = 0
      ·subst hz2
       have A6 := Lib.hid (LVS.out _ _ _ _ D2.out)
       obtain ⟨m7, hm7⟩ : ∃ z, l.length = z := ⟨_, rfl⟩
       have hl9 : m7 ≤ n0 := by have := CL.out.2.2.1; omega
       have OWN : Hid (w2.ownsRow 0 77 1 u7 m7 (u32V l)) := Lib.hid (by
        have h := D2.out.own
        unfold Rw.owned at h
        dsimp only at h
        rw [u32V_length, hm7] at h
        exact h)
       obtain ⟨s7, c7, e7⟩ := own_shape OWN.out
       subst e7
       obtain ⟨M, hM⟩ : ∃ M, (ref.drop k).take n1 = M := ⟨_, rfl⟩
       obtain ⟨mm, hmm⟩ : ∃ m, M.length = m := ⟨_, rfl⟩
       have hmm9 : mm = E - k := by rw [← hmm, ← hM]; rw [List.length_take, List.length_drop, HN.out]; omega
       have HMM := Lib.hid hmm
       have HMQ := Lib.hid (And.intro hM hmm9)
       have C3 : Hid (m7 + mm ≤ maxLen) := Lib.hid (by simp only [maxLen]; omega)
       have C4 : Hid ((m7 + mm) * 4 ≤ 140737488355328) := Lib.hid (by omega)
       have HM7 := Lib.hid hm7
       rw [HR2.out, if_pos rfl, hM] at ST
       clear hm7 hmm
       have b1 : (0 : Int) ≤ (k : Int) := by omega
       have b2 : (k : Int) ≤ (E : Int) := by omega
       have b3 : (E : Int) ≤ (cap : Int) := by omega
       have b4 : E ≤ cap := by omega
       have b5 : k ≤ E := by omega
       clear hE
       subst hmm9
       by_cases hck : cap = k
       ·subst hck
        have hM0 : M = [] := List.eq_nil_of_length_eq_zero (by have := HMM.out; omega)
        subst hM0
        have C30 : Hid (m7 + 0 ≤ maxLen) := Lib.hid (by have := C3.out; omega)
        have C40 : Hid ((m7 + 0) * 4 ≤ 140737488355328) := Lib.hid (by have := C4.out; omega)
        go_wp2_with (at_builtin; refine wpList_append_lv _ rfl _ _ 34 rfl 0 77 j0 _ 4 Tryz.underlying34 hj hj0 hj1 hj2 rfl _ m7 _ rfl OWN.out (some ad) 0 0 ([] : List Nat) rfl rfl LV.nil C30.out C40.out (Nat.zero_le _) ?_)
        intro v8 w8 own8 hg8 hw8
        have D8 := Lib.hid (D2.out.push (v' := v8) (xs' := u32V (l ++ [])) (by rw [u32V_length, List.length_append, HM7.out, u32V_append]; exact own8) hg8 hw8)
        clear own8 hg8 hw8 OWN
        go_wp2_with fail
        go_roundw
        case rel => exact ⟨i + 1, E, l ++ [], p2, bad2, by go_num, by go_num, ST.out, D8.out⟩
        case measure => simp [intOf]; try omega
       ·have A7 : Hid (LV w2 (some (ad.add k)) M) := Lib.hid (by
         have h := A6.out.cut (k := k) (by rw [HN.out]; exact hcap) (by rw [HN.out]; exact hk)
         rw [if_neg hck] at h
         rw [← HMQ.out.1]
         exact h.take n1)
        go_wp2_with (at_builtin; refine wpList_append_lv _ rfl _ _ 34 rfl 0 77 j0 _ 4 Tryz.underlying34 hj hj0 hj1 hj2 rfl _ m7 _ rfl OWN.out (some (ad.add k)) (E - k) (cap - k) M rfl HMM.out A7.out C3.out C4.out (Nat.zero_le _) ?_)
        intro v8 w8 own8 hg8 hw8
        have D8 := Lib.hid (D2.out.push (v' := v8) (xs' := u32V (l ++ M)) (by rw [u32V_length, List.length_append, HM7.out, HMM.out, u32V_append]; exact own8) hg8 hw8)
        clear own8 hg8 hw8 OWN
        go_wp2_with fail
        go_roundw
        case rel => exact ⟨i + 1, E, l ++ M, p2, bad2, by go_num, by go_num, ST.out, D8.out⟩
        case measure => simp [intOf]; try omega
      ·have i2 : ((r2 : Int) == 0) = false := beq_eq_false_iff_ne.2 (by omega)
       rw [HR2.out, if_neg hz2] at ST
       go_wp2_with fail
       go_roundw
       case rel => exact ⟨i + 1, E, l, p2, bad2, by go_num, by go_num, ST.out, D2.out⟩
       case measure => simp [intOf]; try omega
   | true =>
    --B
    have FQ : Hid (CopP F n0 (if z % 2 = 0 then l ++ ref.drop k else l) p' true) := Lib.hid (by
     have h := CL.out.fin HA.out.2 (.inr rfl)
     rw [HN.out] at h
     exact h)
    obtain ⟨r2, hr2⟩ : ∃ r, z % 2 = r := ⟨_, rfl⟩
    have t2 : (z : Int).tmod 2 = (r2 : Int) := by rw [Int.tmod_eq_emod_of_nonneg (by omega)]; omega
    have HR2 := Lib.hid hr2
    clear hr2
    by_cases hz2 : r2 = 0
    ·subst hz2
     have A6 := Lib.hid (LVS.out _ _ _ _ D.out)
     obtain ⟨m7, hm7⟩ : ∃ z, l.length = z := ⟨_, rfl⟩
     have hl9 : m7 ≤ n0 := by have := CL.out.2.2.1; omega
     have OWN : Hid (wl.ownsRow 0 77 1 u7 m7 (u32V l)) := Lib.hid (by
      have h := D.out.own
      unfold Rw.owned at h
      dsimp only at h
      rw [u32V_length, hm7] at h
      exact h)
     obtain ⟨s7, c7, e7⟩ := own_shape OWN.out
     subst e7
     obtain ⟨M, hM⟩ : ∃ M, ref.drop k = M := ⟨_, rfl⟩
     obtain ⟨mm, hmm⟩ : ∃ m, M.length = m := ⟨_, rfl⟩
     have hmm9 : mm = n0 - k := by rw [← hmm, ← hM]; rw [List.length_drop, HN.out]
     have HMM := Lib.hid hmm
     have HMQ := Lib.hid (And.intro hM hmm9)
     have C3 : Hid (m7 + mm ≤ maxLen) := Lib.hid (by simp only [maxLen]; omega)
     have C4 : Hid ((m7 + mm) * 4 ≤ 140737488355328) := Lib.hid (by omega)
     have HM7 := Lib.hid hm7
     rw [HR2.out, if_pos rfl, hM] at FQ
     clear hm7 hmm
     have b1 : (0 : Int) ≤ (k : Int) := by omega
     have b2 : (k : Int) ≤ (n0 : Int) := by omega
     have b3 : (n0 : Int) ≤ (cap : Int) := by omega
     subst hmm9
     by_cases hck : cap = k
     ·subst hck
      have hM0 : M = [] := List.eq_nil_of_length_eq_zero (by have := HMM.out; omega)
      subst hM0
      have C30 : Hid (m7 + 0 ≤ maxLen) := Lib.hid (by have := C3.out; omega)
      have C40 : Hid ((m7 + 0) * 4 ≤ 140737488355328) := Lib.hid (by have := C4.out; omega)
      go_wp2_with (at_builtin; refine wpList_append_lv _ rfl _ _ 34 rfl 0 77 j0 _ 4 Tryz.underlying34 hj hj0 hj1 hj2 rfl _ m7 _ rfl OWN.out (some ad) 0 0 ([] : List Nat) rfl rfl LV.nil C30.out C40.out (Nat.zero_le _) ?_)
      intro v8 w8 own8 hg8 hw8
      have D8 := Lib.hid (D.out.push (v' := v8) (xs' := u32V (l ++ [])) (by rw [u32V_length, List.length_append, HM7.out, u32V_append]; exact own8) hg8 hw8)
      clear own8 hg8 hw8 OWN
      go_wp2_with fail
      exact bodyPost_ret (v := v8) (by simp [results, Tryz.results84, go_sem]) rfl ⟨v8, l ++ [], p', _, rfl, FQ.out, LS.out _ _ _ _ D8.out⟩
     ·have A7 : Hid (LV wl (some (ad.add k)) M) := Lib.hid (by
       have h := A6.out.cut (k := k) (by rw [HN.out]; exact hcap) (by rw [HN.out]; exact hk)
       rw [if_neg hck] at h
       rw [← HMQ.out.1]
       exact h)
      go_wp2_with (at_builtin; refine wpList_append_lv _ rfl _ _ 34 rfl 0 77 j0 _ 4 Tryz.underlying34 hj hj0 hj1 hj2 rfl _ m7 _ rfl OWN.out (some (ad.add k)) (n0 - k) (cap - k) M rfl HMM.out A7.out C3.out C4.out (Nat.zero_le _) ?_)
      intro v8 w8 own8 hg8 hw8
      have D8 := Lib.hid (D.out.push (v' := v8) (xs' := u32V (l ++ M)) (by rw [u32V_length, List.length_append, HM7.out, HMM.out, u32V_append]; exact own8) hg8 hw8)
      clear own8 hg8 hw8 OWN
      go_wp2_with fail
      exact bodyPost_ret (v := v8) (by simp [results, Tryz.results84, go_sem]) rfl ⟨v8, l ++ M, p', _, rfl, FQ.out, LS.out _ _ _ _ D8.out⟩
    ·have i2 : ((r2 : Int) == 0) = false := beq_eq_false_iff_ne.2 (by omega)
     rw [HR2.out, if_neg hz2] at FQ
     go_wp2_with fail
     exact bodyPost_ret (v := u7) (by simp [results, Tryz.results84, go_sem]) rfl ⟨u7, l, p', _, rfl, FQ.out, LS.out _ _ _ _ D.out⟩
  ·skip
   --C
   have hiz : i = z := by omega
   have i1 : decide ((i : Int) < (z : Int)) = false := decide_eq_false (by omega)
   have FQ : Hid (CopP F n0 (if z % 2 = 0 then l ++ ref.drop k else l) p' bad) := Lib.hid (by
    have h := CL.out.fin HA.out.2 (.inl hiz)
    rw [HN.out] at h
    exact h)
   obtain ⟨r2, hr2⟩ : ∃ r, z % 2 = r := ⟨_, rfl⟩
   have t2 : (z : Int).tmod 2 = (r2 : Int) := by rw [Int.tmod_eq_emod_of_nonneg (by omega)]; omega
   have HR2 := Lib.hid hr2
   clear hr2
   by_cases hz2 : r2 = 0
   ·subst hz2
    have A6 := Lib.hid (LVS.out _ _ _ _ D.out)
    obtain ⟨m7, hm7⟩ : ∃ z, l.length = z := ⟨_, rfl⟩
    have hl9 : m7 ≤ n0 := by have := CL.out.2.2.1; omega
    have OWN : Hid (wl.ownsRow 0 77 1 u7 m7 (u32V l)) := Lib.hid (by
     have h := D.out.own
     unfold Rw.owned at h
     dsimp only at h
     rw [u32V_length, hm7] at h
     exact h)
    obtain ⟨s7, c7, e7⟩ := own_shape OWN.out
    subst e7
    obtain ⟨M, hM⟩ : ∃ M, ref.drop k = M := ⟨_, rfl⟩
    obtain ⟨mm, hmm⟩ : ∃ m, M.length = m := ⟨_, rfl⟩
    have hmm9 : mm = n0 - k := by rw [← hmm, ← hM]; rw [List.length_drop, HN.out]
    have HMM := Lib.hid hmm
    have HMQ := Lib.hid (And.intro hM hmm9)
    have C3 : Hid (m7 + mm ≤ maxLen) := Lib.hid (by simp only [maxLen]; omega)
    have C4 : Hid ((m7 + mm) * 4 ≤ 140737488355328) := Lib.hid (by omega)
    have HM7 := Lib.hid hm7
    rw [HR2.out, if_pos rfl, hM] at FQ
    clear hm7 hmm
    have b1 : (0 : Int) ≤ (k : Int) := by omega
    have b2 : (k : Int) ≤ (n0 : Int) := by omega
    have b3 : (n0 : Int) ≤ (cap : Int) := by omega
    subst hmm9
    by_cases hck : cap = k
    ·subst hck
     have hM0 : M = [] := List.eq_nil_of_length_eq_zero (by have := HMM.out; omega)
     subst hM0
     have C30 : Hid (m7 + 0 ≤ maxLen) := Lib.hid (by have := C3.out; omega)
     have C40 : Hid ((m7 + 0) * 4 ≤ 140737488355328) := Lib.hid (by have := C4.out; omega)
     go_wp2_with (at_builtin; refine wpList_append_lv _ rfl _ _ 34 rfl 0 77 j0 _ 4 Tryz.underlying34 hj hj0 hj1 hj2 rfl _ m7 _ rfl OWN.out (some ad) 0 0 ([] : List Nat) rfl rfl LV.nil C30.out C40.out (Nat.zero_le _) ?_)
     intro v8 w8 own8 hg8 hw8
     have D8 := Lib.hid (D.out.push (v' := v8) (xs' := u32V (l ++ [])) (by rw [u32V_length, List.length_append, HM7.out, u32V_append]; exact own8) hg8 hw8)
     clear own8 hg8 hw8 OWN
     go_wp2_with fail
     exact bodyPost_ret (v := v8) (by simp [results, Tryz.results84, go_sem]) rfl ⟨v8, l ++ [], p', _, rfl, FQ.out, LS.out _ _ _ _ D8.out⟩
    ·have A7 : Hid (LV wl (some (ad.add k)) M) := Lib.hid (by
      have h := A6.out.cut (k := k) (by rw [HN.out]; exact hcap) (by rw [HN.out]; exact hk)
      rw [if_neg hck] at h
      rw [← HMQ.out.1]
      exact h)
     go_wp2_with (at_builtin; refine wpList_append_lv _ rfl _ _ 34 rfl 0 77 j0 _ 4 Tryz.underlying34 hj hj0 hj1 hj2 rfl _ m7 _ rfl OWN.out (some (ad.add k)) (n0 - k) (cap - k) M rfl HMM.out A7.out C3.out C4.out (Nat.zero_le _) ?_)
     intro v8 w8 own8 hg8 hw8
     have D8 := Lib.hid (D.out.push (v' := v8) (xs' := u32V (l ++ M)) (by rw [u32V_length, List.length_append, HM7.out, HMM.out, u32V_append]; exact own8) hg8 hw8)
     clear own8 hg8 hw8 OWN
     go_wp2_with fail
     exact bodyPost_ret (v := v8) (by simp [results, Tryz.results84, go_sem]) rfl ⟨v8, l ++ M, p', _, rfl, FQ.out, LS.out _ _ _ _ D8.out⟩
   ·have i2 : ((r2 : Int) == 0) = false := beq_eq_false_iff_ne.2 (by omega)
    rw [HR2.out, if_neg hz2] at FQ
    go_wp2_with fail
    exact bodyPost_ret (v := u7) (by simp [results, Tryz.results84, go_sem]) rfl ⟨u7, l, p', _, rfl, FQ.out, LS.out _ _ _ _ D.out⟩
end Go.Proofs.YtflnpcgnenhogaaGreatDoor.ls
namespace Go.Proofs.YtflnpcgnenhogaaGreatDoor.ls
open Go.RowKit Go.Proofs.YtflnpcgnenhogaaGreatDoor.own Go.Proofs.YtflnpcgnenhogaaGreatDoor.bit

/-- what stands in a round of rows -/
def LngL (F : Option (List Nat × Nat)) (B : Bits) (x most itv z i : Nat) (e : Option Nat) (l : List Nat) (p : Nat) (bad : Bool) : Prop :=
 i ≤ z ∧ l.length ≤ most ∧ (∀ v ∈ l, v < 65536) ∧ (∀ e', e = some e' → e' < 65536) ∧ (i = 0 ↔ e = none) ∧ (bad = true → F = none) ∧ (bad = false → F = (lng B x most itv (z - i) e l.length p).map fun t => (l ++ t.1, t.2))
/-- whether the document's zag marks it -/
def zagBad (x : Nat) (e : Option Nat) (v : Nat) : Bool := match e with
 | none => decide (zag v + (x : Int) < 0 ∨ 65536 ≤ zag v + (x : Int))
 | some _ => false
theorem lng_succ (B : Bits) (x most itv c : Nat) (e : Option Nat) (used p : Nat) : lng B x most itv (c + 1) e used p = (tk B .gam 262144 p).bind fun q => (tk B .gam most q.2).bind fun q2 =>
      if rowFrom x e q.1 < 0 ∨ 65536 < rowFrom x e q.1 + ((q2.1 + itv : Nat) : Int) ∨ most < used + (q2.1 + itv) then none else
      (lng B x most itv c (some ((rowFrom x e q.1).toNat + (q2.1 + itv) - 1)) (used + (q2.1 + itv)) q2.2).map fun t => (row ((rowFrom x e q.1).toNat, q2.1 + itv) ++ t.1, t.2) := rfl
section
variable {F : Option (List Nat × Nat)} {B : Bits} {x most itv z i p v p2 v2 p3 : Nat} {e : Option Nat} {l : List Nat} {b2 b3 : Bool}
theorem LngL.no (h : LngL F B x most itv z i e l p false) (hi : i < z) (hit : 1 ≤ itv) (t1 : TakeD (tk B .gam 262144 p) 262144 false v p2 b2) (t2 : TakeD (tk B .gam most p2) most (b2 || zagBad x e v) v2 p3 b3)
  (hno : b3 = true ∨ 65536 < rowFrom x e v + ((v2 + itv : Nat) : Int) ∨ most < l.length + (v2 + itv)) : F = none := by
 obtain ⟨h1, h2, h3, h4, h5, h6, h7⟩ := h
 have eq := h7 rfl
 rw [show z - i = (z - i - 1) + 1 by omega, lng_succ] at eq
 rw [eq]
 cases hk : tk B .gam 262144 p with
 | none => rfl
 | some q =>
  obtain ⟨rfl, rfl, rfl⟩ := t1.1 q hk rfl
  rw [Bool.false_or] at t2
  show ((tk B .gam most q.2).bind _).map _ = none
  cases hk2 : tk B .gam most q.2 with
  | none => rfl
  | some q2 =>
   show (if _ then none else _).map _ = none
   cases hz : zagBad x e q.1 with
   | true =>
    have hc : rowFrom x e q.1 < 0 ∨ 65536 < rowFrom x e q.1 + ((q2.1 + itv : Nat) : Int) ∨ most < l.length + (q2.1 + itv) := by
     cases e with
     | some e' => cases hz
     | none =>
      have h9 : zag q.1 + (x : Int) < 0 ∨ 65536 ≤ zag q.1 + (x : Int) := of_decide_eq_true hz
      show zag q.1 + (x : Int) < 0 ∨ 65536 < zag q.1 + (x : Int) + ((q2.1 + itv : Nat) : Int) ∨ _
      omega
    rw [if_pos hc]
    rfl
   | false =>
    rw [hz] at t2
    obtain ⟨rfl, rfl, rfl⟩ := t2.1 q2 hk2 rfl
    have hc : rowFrom x e q.1 < 0 ∨ 65536 < rowFrom x e q.1 + ((q2.1 + itv : Nat) : Int) ∨ most < l.length + (q2.1 + itv) := by
     rcases hno with h | h
     ·cases h
     ·exact .inr h
    rw [if_pos hc]
    rfl
theorem LngL.step (h : LngL F B x most itv z i e l p false) (hi : i < z) (t1 : TakeD (tk B .gam 262144 p) 262144 false v p2 b2) (t2 : TakeD (tk B .gam most p2) most (b2 || zagBad x e v) v2 p3 b3)
  (h0 : b3 = false) (h8 : rowFrom x e v + ((v2 + itv : Nat) : Int) ≤ 65536) (h9 : l.length + (v2 + itv) ≤ most) :
  0 ≤ rowFrom x e v ∧ LngL F B x most itv z (i + 1) (some ((rowFrom x e v).toNat + (v2 + itv) - 1)) (l ++ row ((rowFrom x e v).toNat, v2 + itv)) p3 false := by
 subst h0
 obtain ⟨h1, h2, h3, h4, h5, h6, h7⟩ := h
 have eq := h7 rfl
 rw [show z - i = (z - (i + 1)) + 1 by omega, lng_succ] at eq
 have hb2 : (b2 || zagBad x e v) = false := by
  cases hb : (b2 || zagBad x e v) with
  | false => rfl
  | true => have := (t2.2.1 (.inl hb)).2; cases this
 rw [hb2] at t2
 have hb2a : b2 = false := by cases b2 <;> simp_all
 have hz : zagBad x e v = false := by cases b2 <;> simp_all
 subst hb2a
 cases hk : tk B .gam 262144 p with
 | none => have := (t1.2.1 (.inr hk)).2; cases this
 | some q =>
  obtain ⟨rfl, rfl, -⟩ := t1.1 q hk rfl
  cases hk2 : tk B .gam most q.2 with
  | none => have := (t2.2.1 (.inr hk2)).2; cases this
  | some q2 =>
   obtain ⟨rfl, rfl, -⟩ := t2.1 q2 hk2 rfl
   have hpos : 0 ≤ rowFrom x e q.1 := by
    cases e with
    | none =>
     have h9 : ¬ (zag q.1 + (x : Int) < 0 ∨ 65536 ≤ zag q.1 + (x : Int)) := of_decide_eq_false hz
     show 0 ≤ zag q.1 + (x : Int)
     omega
    | some e' =>
     show 0 ≤ (q.1 : Int) + ((e' : Int) + 2)
     omega
   rw [hk, Option.bind_some, hk2, Option.bind_some, if_neg (by omega)] at eq
   have hrl : (row ((rowFrom x e q.1).toNat, q2.1 + itv)).length = q2.1 + itv := by unfold row; rw [List.length_range']
   refine ⟨hpos, by omega, by rw [List.length_append, hrl]; exact h9, fun v hv => ?_, fun e' he => ?_, ⟨fun h => by omega, fun h => by cases h⟩, fun h => (by cases h), fun _ => ?_⟩
   ·rcases List.mem_append.1 hv with hv | hv
    ·exact h3 v hv
    ·unfold row at hv
     have := List.mem_range'_1.1 hv
     dsimp only at this
     omega
   ·cases he
    omega
   ·rw [eq, List.length_append, hrl, Option.map_map]
    exact congrArg (fun f => Option.map f _) (funext fun t => by simp [Function.comp])
theorem LngL.fin (h : LngL F B x most itv z i e l p b2) (he : i = z ∨ b2 = true) : CopP F most l p b2 := by
 obtain ⟨h1, h2, h3, h4, h5, h6, h7⟩ := h
 refine ⟨h2, h3, h6, fun hb => ?_⟩
 rcases he with rfl | he
 ·rw [h7 hb, Nat.sub_self]
  show some (l ++ [], p) = some (l, p)
  rw [List.append_nil]
 ·rw [hb] at he; cases he
end
end Go.Proofs.YtflnpcgnenhogaaGreatDoor.ls
namespace Go.Proofs.YtflnpcgnenhogaaGreatDoor.ls
open Go.RowKit Go.Proofs.YtflnpcgnenhogaaGreatDoor.own Go.Proofs.YtflnpcgnenhogaaGreatDoor.bit

set_option maxRecDepth 100000 in
theorem dZag_any (u : Nat) (hu : u < 4611686018427387904) (w : World) : Calls Tryz.prog 113 #[.int .u64 (u : Int)] w fun e w' => e = .returned (.int .i64 (zag u)) ∧ Below w.heap.size w w' := by
 obtain ⟨r, hr⟩ : ∃ r, u % 2 = r := ⟨_, rfl⟩
 obtain ⟨q, hq⟩ : ∃ q, u / 2 = q := ⟨_, rfl⟩
 have Z : Hid (zag u = if r = 0 then (q : Int) else -(q : Int) - 1) := Lib.hid (by unfold zag; rw [hr, hq])
 have t1 : (u : Int) % 2 = (r : Int) := by omega
 have t2 : (u : Int) / 2 = (q : Int) := by omega
 have t3 : (u : Int).tmod 2 = (r : Int) := by rw [Int.tmod_eq_emod_of_nonneg (by omega)]; exact t1
 have t4 : (u : Int).tdiv 2 = (q : Int) := by rw [Int.tdiv_eq_ediv_of_nonneg (by omega)]; exact t2
 have w1 : IntKind.i64.wrap (q : Int) = (q : Int) := IntWalk.i64_in _ (by omega)
 have w2 : IntKind.i64.wrap (-(q : Int)) = -(q : Int) := IntWalk.i64_in _ (by omega)
 have w3 : IntKind.i64.wrap (-(q : Int) - 1) = -(q : Int) - 1 := IntWalk.i64_in _ (by omega)
 have w4 : IntKind.u64.wrap (q : Int) = (q : Int) := IntWalk.u64_in _ (by omega)
 have hr2 : r = 0 ∨ r = 1 := by omega
 clear hr hq
 rcases hr2 with rfl | rfl
 ·go_enter Tryz.func113, Tryz.ntmps113
  go_wp2_with fail
  go_ret
  exact ⟨by rw [Z.out]; rfl, Below.refl _ _⟩
 ·go_enter Tryz.func113, Tryz.ntmps113
  go_wp2_with fail
  go_ret
  exact ⟨by rw [Z.out]; rfl, Below.refl _ _⟩
theorem zag_bound (u : Nat) (hu : u ≤ 1000000) : -1000001 ≤ zag u ∧ zag u ≤ 1000000 := by
 unfold zag
 split <;> omega
/-- what zag answers -/
def ZagP (w : World) (wr : Option (Nat × Bits)) (rd : Option (Nat × ByteArray × Nat)) (rb : Nat) (aB : Option Addr) (dB : Nat) (B : Bits) (tb p : Nat) (bad : Bool) (rs : List Rw) (K : List (Nat × Obj)) (v : Int) (e : Ending) (w' : World) : Prop :=
 e = .returned (.int .i64 v) ∧ DTR w wr rd rb aB dB B tb p (bad || decide (v < 0 ∨ 65536 ≤ v)) rs K w'
set_option maxRecDepth 100000 in
set_option maxHeartbeats 3200000 in
theorem DTR.zag {w W : World} {wr : Option (Nat × Bits)} {rd : Option (Nat × ByteArray × Nat)} {rb : Nat} {aB : Option Addr} {dB : Nat} {B : Bits} {tb p : Nat} {bad : Bool} {rs : List Rw} {K : List (Nat × Obj)} (h : DTR w wr rd rb aB dB B tb p bad rs K W) (n x : Nat) (hn : n ≤ 1000000) (hx : x < 65536) :
  Calls Tryz.prog 88 #[.pointer (some ⟨tb, 0, none⟩), .int .i64 (n : Int), .int .i64 (x : Int)] W (ZagP w wr rd rb aB dB B tb p bad rs K (ls.zag n + (x : Int))) := by
 have H := Lib.hid h
 have ZG := Lib.hid (dZag_any n (by omega) W)
 have hzb := zag_bound n hn
 obtain ⟨v, hv⟩ : ∃ v, ls.zag n = v := ⟨_, rfl⟩
 rw [hv] at ZG hzb ⊢
 have u1 : IntKind.u64.wrap (n : Int) = (n : Int) := IntWalk.u64_in _ (by omega)
 have w1 : IntKind.i64.wrap v = v := IntWalk.i64_in _ (by omega)
 obtain ⟨s, hs⟩ : ∃ s, v + (x : Int) = s := ⟨_, rfl⟩
 have w2 : IntKind.i64.wrap (v + (x : Int)) = s := by rw [IntWalk.i64_in _ (by omega)]; exact hs
 rw [hs]
 have hsb : -1000001 ≤ s ∧ s ≤ 1065536 := by omega
 clear h hv hs
 go_enter Tryz.func88, Tryz.ntmps88
 go_wp2_with fail
 with_reducible refine ZG.out.mono ?_
 rintro e w2 ⟨rfl, k2⟩
 have D2 := Lib.hid (H.out.next k2)
 obtain ⟨-, c1, z⟩ := D2.out.cells
 have z1 := z 1
 clear k2 z ZG
 by_cases hlo : s < 0
 ·have D3 : Hid (DTR w wr rd rb aB dB B tb p (bad || decide (s < 0 ∨ 65536 ≤ s)) rs K (w2.setCell ⟨tb, 1, none⟩ (.bool true))) := Lib.hid (by
   have h := D2.out.mark true
   rw [decide_eq_true (.inl hlo), Bool.or_true]
   exact h)
  have i1 : decide (s < 0) = true := decide_eq_true hlo
  go_wp2_with fail
  go_ret
  exact ⟨rfl, D3.out⟩
 ·have i1 : decide (s < 0) = false := decide_eq_false hlo
  by_cases hhi : 65536 ≤ s
  ·have D3 : Hid (DTR w wr rd rb aB dB B tb p (bad || decide (s < 0 ∨ 65536 ≤ s)) rs K (w2.setCell ⟨tb, 1, none⟩ (.bool true))) := Lib.hid (by
    have h := D2.out.mark true
    rw [decide_eq_true (.inr hhi), Bool.or_true]
    exact h)
   have i2 : decide ((65536 : Int) ≤ s) = true := decide_eq_true hhi
   go_wp2_with fail
   go_ret
   exact ⟨rfl, D3.out⟩
  ·have D3 : Hid (DTR w wr rd rb aB dB B tb p (bad || decide (s < 0 ∨ 65536 ≤ s)) rs K w2) := Lib.hid (by
    rw [decide_eq_false (by omega), Bool.or_false]
    exact D2.out)
   have i2 : decide ((65536 : Int) ≤ s) = false := decide_eq_false hhi
   go_wp2_with fail
   go_ret
   exact ⟨rfl, D3.out⟩
set_option maxRecDepth 100000 in
theorem dsame_any (w : World) (a b : Option Addr) (A B : Bits) (ca cb : Nat) (hl : A.length = B.length) (h9 : A.length ≤ 4611686018427387903) (ha : BlV w a A) (hb : BlV w b B) :
  Calls Tryz.prog 57 #[.slice a A.length ca, .slice b B.length cb] w fun e w' => e = .returned (.bool (decide (A = B))) ∧ Below w.heap.size w w' := by
 have HA := Lib.hid ha
 have HB := Lib.hid hb
 obtain ⟨n, hn⟩ : ∃ n, A.length = n := ⟨_, rfl⟩
 have hnB : B.length = n := by rw [← hl, hn]
 have HN := Lib.hid (And.intro hn hnB)
 rw [hn] at h9 ⊢
 rw [hnB]
 clear ha hb hl hn hnB
 go_enter Tryz.func57, Tryz.ntmps57
 go_wp2_with fail
 go_loopw [5] (fun v wl => ∃ i : Nat, v = .int .i64 (i : Int) ∧ i ≤ n ∧ A.take i = B.take i ∧ Below w.heap.size w wl) (fun v _ => n - (intOf v).toNat)
 case atStart => exact ⟨0, rfl, Nat.zero_le _, rfl, Below.refl _ _⟩
 case round =>
  obtain ⟨i, rfl, hi, he, hb⟩ := hrel
  have HE := Lib.hid he
  have HBW := Lib.hid hb
  by_cases hlt : i < n
  ·obtain ⟨ga, oa, rfl, hga, hca⟩ := HA.out i (by rw [HN.out.1]; exact hlt)
   obtain ⟨gb, ob, rfl, hgb, hcb⟩ := HB.out i (by rw [HN.out.2]; exact hlt)
   have ca1 := (hb.cell hga).trans hca
   have cb1 := (hb.cell hgb).trans hcb
   have ST : Hid ((A[i]'(by rw [HN.out.1]; exact hlt)) = (B[i]'(by rw [HN.out.2]; exact hlt)) → A.take (i + 1) = B.take (i + 1)) := Lib.hid (fun h => by
    rw [List.take_succ_eq_append_getElem (by rw [HN.out.1]; exact hlt), List.take_succ_eq_append_getElem (by rw [HN.out.2]; exact hlt), HE.out, h])
   have NO : Hid ((A[i]'(by rw [HN.out.1]; exact hlt)) ≠ (B[i]'(by rw [HN.out.2]; exact hlt)) → A ≠ B) := Lib.hid (fun h e => by
    subst e
    exact h rfl)
   generalize (A[i]'(by rw [HN.out.1]; exact hlt)) = x at ca1 ST NO
   generalize (B[i]'(by rw [HN.out.2]; exact hlt)) = y at cb1 ST NO
   clear he hb hca hcb
   by_cases hxy : x = y
   ·subst hxy
    have S1 := Lib.hid (ST.out rfl)
    cases x
    ·go_upto_region 4 with fail
     go_big_region
     go_wp2_with fail
     go_roundw
     case rel => exact ⟨i + 1, by go_num, by omega, S1.out, Below.drew HBW.out⟩
     case measure => simp [intOf]; try omega
    ·go_upto_region 4 with fail
     go_big_region
     go_wp2_with fail
     go_roundw
     case rel => exact ⟨i + 1, by go_num, by omega, S1.out, Below.drew HBW.out⟩
     case measure => simp [intOf]; try omega
   ·have N1 : Hid (decide (A = B) = false) := Lib.hid (decide_eq_false (NO.out hxy))
    cases x <;> cases y
    ·exact absurd rfl hxy
    ·go_upto_region 4 with fail
     go_big_region
     go_wp2_with fail
     go_ret
     exact ⟨by rw [N1.out]; rfl, Below.drew HBW.out⟩
    ·go_upto_region 4 with fail
     go_big_region
     go_wp2_with fail
     go_ret
     exact ⟨by rw [N1.out]; rfl, Below.drew HBW.out⟩
    ·exact absurd rfl hxy
  ·have hin : i = n := by omega
   have Y1 : Hid (decide (A = B) = true) := Lib.hid (decide_eq_true (by
    have h := HE.out
    rw [List.take_of_length_le (by rw [HN.out.1]; omega), List.take_of_length_le (by rw [HN.out.2]; omega)] at h
    exact h))
   have i1 : decide ((i : Int) < (n : Int)) = false := decide_eq_false (by omega)
   clear he hb
   go_wp2_with fail
   go_ret
   exact ⟨by rw [Y1.out]; rfl, HBW.out⟩
end Go.Proofs.YtflnpcgnenhogaaGreatDoor.ls
namespace Go.Proofs.YtflnpcgnenhogaaGreatDoor.ls
open Go.RowKit Go.Proofs.YtflnpcgnenhogaaGreatDoor.own Go.Proofs.YtflnpcgnenhogaaGreatDoor.bit

def endD : Option Nat → Int
 | none => 0
 | some e => (e : Int)
/-- the state of a round -/
def RowS (w : World) (wr : Option (Nat × Bits)) (rd : Option (Nat × ByteArray × Nat)) (rb : Nat) (aB : Option Addr) (dB : Nat) (B : Bits) (tb : Nat) (K : List (Nat × Obj)) (F : Option (List Nat × Nat)) (x most itv z : Nat) (vo ve vi : Value) (wl : World) : Prop :=
 ∃ (i : Nat) (en : Option Nat) (l : List Nat) (p' : Nat) (bad : Bool), ve = .int .i64 (endD en) ∧ vi = .int .i64 (i : Int) ∧ LngL F B x most itv z i en l p' bad ∧ DTR w wr rd rb aB dB B tb p' bad [⟨77, vo, u32V l⟩] K wl
set_option maxRecDepth 100000 in
set_option maxHeartbeats 6400000 in
theorem drows_any {w W : World} {wr : Option (Nat × Bits)} {rd : Option (Nat × ByteArray × Nat)} {rb : Nat} {aB : Option Addr} {dB : Nat} {B : Bits} {tb p : Nat} {K : List (Nat × Obj)} (h : DTk w wr rd rb aB dB B tb p false K W)
  (x most win itv zet : Nat) (hx : x < 65536) (hm : most ≤ 65536) (hi1 : 1 ≤ itv) (hi2 : itv ≤ 64) :
  Calls Tryz.prog 85 #[.pointer (some ⟨tb, 0, none⟩), .int .i64 (x : Int), .int .i64 (most : Int), .agg #[.int .i64 (win : Int), .int .i64 (itv : Int), .int .i64 (zet : Int)]] W (ListD (CopP (longs B x most itv p) most) w wr rd rb aB dB B tb K) := by
 obtain ⟨j0, hj, hj0, hj1, hj2⟩ := info_parts Tryz.infoU32
 have TT : Hid (∀ K' W' p' bad rs (_ : DTR w wr rd rb aB dB B tb p' bad rs K' W') (mi : Int) (most : Nat) (_ : mi = (most : Int)) (_ : most ≤ 1000000), Calls Tryz.prog 87 #[.pointer (some ⟨tb, 0, none⟩), cdV .gam, .int .i64 mi] W' (DTakeR w wr rd rb aB dB B tb rs K' (tk B .gam most p') most bad)) := Lib.hid (fun K' W' p' bad rs h mi most e hm => by
  subst e
  exact h.take .gam trivial most hm)
 unfold cdV at TT
 have HB6 := Lib.hid h.2.2
 have h9 := (h.add #[.int .i64 (win : Int), .int .i64 (itv : Int), .int .i64 (zet : Int)] 36).add #[.int .u8 1, .int .u64 0] 104
 rw [show (W.alloc (.cells #[.int .i64 (win : Int), .int .i64 (itv : Int), .int .i64 (zet : Int)] 36)).heap.size = W.heap.size + 1 by simp] at h9
 obtain ⟨pb, hpb⟩ : ∃ z, W.heap.size = z := ⟨_, rfl⟩
 rw [hpb] at h9
 obtain ⟨K2, hK2⟩ : ∃ K', (pb + 1, Obj.cells #[.int .u8 1, .int .u64 0] 104 (0, 0)) :: (pb, Obj.cells #[.int .i64 (win : Int), .int .i64 (itv : Int), .int .i64 (zet : Int)] 36 (0, 0)) :: K = K' := ⟨_, rfl⟩
 rw [hK2] at h9
 have H0 := Lib.hid (h9.rows.lift (T := 77))
 have CC : Hid (∀ W' p' bad rs, DTR w wr rd rb aB dB B tb p' bad rs K2 W' → W'.cell? ⟨pb + 1, 0, none⟩ = some (.int .u8 1) ∧ W'.cell? ⟨pb + 1, 1, none⟩ = some (.int .u64 0) ∧ W'.cell? ⟨pb, 1, none⟩ = some (.int .i64 (itv : Int))) := Lib.hid (fun W' p' bad rs h => by
  have r : W'.heap[pb + 1]? = some (.cells #[.int .u8 1, .int .u64 0] 104 (0, 0)) := h.has (q := (pb + 1, _)) (by rw [← hK2]; exact List.mem_cons_self ..)
  have r2 : W'.heap[pb]? = some (.cells #[.int .i64 (win : Int), .int .i64 (itv : Int), .int .i64 (zet : Int)] 36 (0, 0)) := h.has (q := (pb, _)) (by rw [← hK2]; exact List.mem_cons_of_mem _ (List.mem_cons_self ..))
  exact ⟨by rw [cell_of_row _ _ _ _ _ _ r]; rfl, by rw [cell_of_row _ _ _ _ _ _ r]; rfl, by rw [cell_of_row _ _ _ _ _ _ r2]; rfl⟩)
 have LS : Hid (∀ W' p' bad rs, DTR w wr rd rb aB dB B tb p' bad rs K2 W' → DTR w wr rd rb aB dB B tb p' bad rs K W') := Lib.hid (fun W' p' bad rs h => h.less (fun q hq => by rw [← hK2]; exact List.mem_cons_of_mem _ (List.mem_cons_of_mem _ hq)) HB6.out)
 obtain ⟨F, hF⟩ : ∃ F, longs B x most itv p = F := ⟨_, rfl⟩
 have HF : Hid (F = (tk B .gam most p).bind fun q => lng B x most itv q.1 none 0 q.2) := Lib.hid (by rw [← hF]; rfl)
 rw [hF]
 have T1 := Lib.hid (TT.out _ _ _ _ _ H0.out (most : Int) most rfl (by omega))
 obtain ⟨g0, g1, g2⟩ := CC.out _ _ _ _ H0.out
 clear h hF h9 hK2
 go_enter Tryz.func85, Tryz.ntmps85
 go_wp2_with fail
 generalize World.alloc (World.alloc W _) _ = W0 at H0 T1 g0 g1 g2 ⊢
 with_reducible refine T1.out.mono ?_
 rintro e w1 ⟨z, p1, bad1, rfl, hp, h1⟩
 have C1 : Hid (LngL F B x most itv z 0 none [] p1 bad1) := Lib.hid (by
  obtain ⟨q1, q2, q3⟩ := hp
  refine ⟨Nat.zero_le _, Nat.zero_le _, fun v hv => (by cases hv), fun e' h => (by cases h), ⟨fun _ => rfl, fun _ => rfl⟩, fun hb => ?_, fun hb => ?_⟩
  ·cases ht : tk B .gam most p with
   | none => rw [HF.out, ht]; rfl
   | some q => have := (q1 q ht rfl).2.2; rw [hb] at this; cases this
  ·cases ht : tk B .gam most p with
   | none => have := (q2 (.inr ht)).2; rw [hb] at this; cases this
   | some q =>
    obtain ⟨rfl, rfl, -⟩ := q1 q ht rfl
    rw [HF.out, ht, Option.bind_some]
    cases lng B x most itv q.1 none 0 q.2 <;> rfl)
 have hz : z ≤ most := hp.2.2
 have H1 := Lib.hid h1
 obtain ⟨g0, g1, g2⟩ := CC.out _ _ _ _ h1
 clear hp h1 T1 HF H0
 go_wp2_with fail
 go_loopw [10, 12, 13] (fun v10 v12 v13 wl => RowS w wr rd rb aB dB B tb K2 F x most itv z v10 v12 v13 wl) (fun _ _ v13 _ => z - (intOf v13).toNat)
 case atStart => exact ⟨0, none, [], p1, bad1, rfl, rfl, C1.out, H1.out⟩
 case round =>
  rename World => wl
  obtain ⟨i, en, l, p', bad, rfl, rfl, hC, hD⟩ := hrel
  have CL := Lib.hid hC
  have D := Lib.hid hD
  obtain ⟨c1, c2, c3⟩ := hD.cells
  obtain ⟨g0, g1, g2⟩ := CC.out _ _ _ _ hD
  have hi : i ≤ z := hC.1
  have hll : l.length ≤ most := hC.2.1
  have hee := hC.2.2.2.1
  have hie := hC.2.2.2.2.1
  clear hC hD
  by_cases hlt : i < z
  ·have i1 : decide ((i : Int) < (z : Int)) = true := decide_eq_true (by omega)
   cases bad with
   | true =>
    have CF := Lib.hid (CL.out.fin (.inr rfl))
    go_wp2_with fail
    exact bodyPost_ret (v := u10) (by simp [results, Tryz.results85, go_sem]) rfl ⟨u10, l, p', _, rfl, CF.out, LS.out _ _ _ _ D.out⟩
   | false =>
    have T2 := Lib.hid (TT.out _ _ _ _ _ D.out 262144 262144 rfl (by omega))
    go_wp2_with fail
    with_reducible refine T2.out.mono ?_
    rintro e w2 ⟨v, p2, bad2, rfl, ht, h2⟩
    have hv9 : v ≤ 262144 := ht.2.2
    have HT1 := Lib.hid ht
    have D2 := Lib.hid h2
    obtain ⟨g0, g1, g2⟩ := CC.out _ _ _ _ h2
    clear ht h2 T2 c1 c2 c3 D
    go_upto_if 38 with fail
    go_cut [14] from 38 to 46 (fun v14 wc => v14 = .int .i64 (rowFrom x en v) ∧ DTR w wr rd rb aB dB B tb p2 (bad2 || zagBad x en v) [⟨77, u10, u32V l⟩] K2 wc)
    case first =>
     cases en with
     | none =>
      have hi0 : i = 0 := hie.2 rfl
      have i0 : ((i : Int) == 0) = true := by rw [hi0]; rfl
      have ZG := Lib.hid (D2.out.zag v x (by omega) hx)
      clear hi0 hie
      go_wp2_with fail
      with_reducible refine ZG.out.mono ?_
      rintro e w3 ⟨rfl, h3⟩
      have D3 := Lib.hid h3
      clear h3 ZG
      go_wp2_with fail
      go_meet
      case rel => exact ⟨rfl, D3.out⟩
     | some e' =>
      have hi0 : i ≠ 0 := fun h => by have := hie.1 h; cases this
      have i0 : ((i : Int) == 0) = false := beq_eq_false_iff_ne.2 (by omega)
      have he9 := hee e' rfl
      have q1 : IntKind.i64.wrap ((v : Int) + endD (some e')) = (v : Int) + (e' : Int) := IntWalk.i64_in _ (by show _ ≤ (v : Int) + (e' : Int) ∧ (v : Int) + (e' : Int) ≤ _; omega)
      have q2 : IntKind.i64.wrap ((v : Int) + (e' : Int) + 2) = rowFrom x (some e') v := by
       rw [IntWalk.i64_in _ (by omega)]
       show _ = (v : Int) + ((e' : Int) + 2)
       omega
      have D3 : Hid (DTR w wr rd rb aB dB B tb p2 (bad2 || zagBad x (some e') v) [⟨77, u10, u32V l⟩] K2 w2) := Lib.hid (by
       rw [show zagBad x (some e') v = false from rfl, Bool.or_false]
       exact D2.out)
      clear hie
      go_wp2_with fail
      go_meet
      case rel => exact ⟨rfl, D3.out⟩
    case rest =>
     obtain ⟨rfl, hD3⟩ := hcut
     have hrb := rowFrom_bound (x := x) hx hee hv9
     have D3 := Lib.hid hD3
     obtain ⟨g0, g1, g2⟩ := CC.out _ _ _ _ hD3
     clear hD3 D2 hee hie
     go_upto_region 12 with fail
     go_region_held3 (fun w' => w'.cell? ⟨pb + 1, 0, none⟩ = some (.int .u8 1) ∧ w'.cell? ⟨pb + 1, 1, none⟩ = some (.int .u64 0) ∧ w'.cell? ⟨pb, 1, none⟩ = some (.int .i64 (itv : Int)))
      (first | exact CC.out _ _ _ _ D3.out | exact CC.out _ _ _ _ D3.out.drew | exact CC.out _ _ _ _ (by assumption) | exact CC.out _ _ _ _ (DTR.drew (by assumption)))
      (first | (go_at_call 87; refine (TT.out _ _ _ _ _ (by first | exact D3.out.drew | exact D3.out) (most : Int) most rfl (by omega)).mono ?_; rintro e w4 ⟨v2, p3, bad3, rfl, ht2, h4⟩))
     have HT2 := Lib.hid ht2
     have hv29 : v2 ≤ most := ht2.2.2
     have D4 := Lib.hid h4
     obtain ⟨c1, c2, c3⟩ := h4.cells
     have c31 := c3 1
     have own4 := h4.own
     unfold Rw.owned at own4
     dsimp only at own4
     obtain ⟨s10, d10, e10⟩ := own_shape own4
     rw [u32V_length] at e10
     subst e10
     obtain ⟨m, hm7⟩ : ∃ m, l.length = m := ⟨_, rfl⟩
     rw [hm7] at hll D4 ⊢
     obtain ⟨n, hn7⟩ : ∃ n, v2 + itv = n := ⟨_, rfl⟩
     obtain ⟨fr, hfr⟩ : ∃ f, rowFrom x en v = f := ⟨_, rfl⟩
     have q3 : IntKind.i64.wrap ((v2 : Int) + (itv : Int)) = (n : Int) := by rw [IntWalk.i64_in _ (by omega)]; omega
     have q4 : IntKind.i64.wrap (fr + (n : Int)) = fr + (n : Int) := IntWalk.i64_in _ (by omega)
     have q5 : IntKind.i64.wrap ((most : Int) - (m : Int)) = (most : Int) - (m : Int) := IntWalk.i64_in _ (by omega)
     have HQ := Lib.hid (And.intro hm7 (And.intro hn7 hfr))
     clear ht2 h4 c3 own4
     cases bad3 with
     | true =>
       have D5 := Lib.hid ((D4.out.mark true).lone.rows.lift (T := 77))
       have FN := Lib.hid (CL.out.no hlt hi1 HT1.out HT2.out (.inl rfl))
       go_wp2_with fail
       exact bodyPost_ret (v := .slice none 0 0) (by simp [results, Tryz.results85, go_sem]) rfl ⟨.slice none 0 0, [], p3, true, rfl, ⟨Nat.zero_le _, fun v hv => (by cases hv), fun _ => FN.out, fun h => (by cases h)⟩, LS.out _ _ _ _ D5.out⟩
     | false =>
      by_cases hf : 65536 < fr + (n : Int)
      ·have o1 : decide ((65536 : Int) < fr + (n : Int)) = true := decide_eq_true hf
       have D5 := Lib.hid ((D4.out.mark true).lone.rows.lift (T := 77))
       have FN := Lib.hid (CL.out.no hlt hi1 HT1.out HT2.out (.inr (.inl (by rw [HQ.out.2.1, HQ.out.2.2]; exact hf))))
       go_wp2_with fail
       exact bodyPost_ret (v := .slice none 0 0) (by simp [results, Tryz.results85, go_sem]) rfl ⟨.slice none 0 0, [], p3, true, rfl, ⟨Nat.zero_le _, fun v hv => (by cases hv), fun _ => FN.out, fun h => (by cases h)⟩, LS.out _ _ _ _ D5.out⟩
      ·have o1 : decide ((65536 : Int) < fr + (n : Int)) = false := decide_eq_false hf
       by_cases hg : most < m + n
       ·have o2 : decide ((most : Int) - (m : Int) < (n : Int)) = true := decide_eq_true (by omega)
        have D5 := Lib.hid ((D4.out.mark true).lone.rows.lift (T := 77))
        have FN := Lib.hid (CL.out.no hlt hi1 HT1.out HT2.out (.inr (.inr (by rw [HQ.out.1, HQ.out.2.1]; exact hg))))
        go_wp2_with fail
        exact bodyPost_ret (v := .slice none 0 0) (by simp [results, Tryz.results85, go_sem]) rfl ⟨.slice none 0 0, [], p3, true, rfl, ⟨Nat.zero_le _, fun v hv => (by cases hv), fun _ => FN.out, fun h => (by cases h)⟩, LS.out _ _ _ _ D5.out⟩
       ·have o2 : decide ((most : Int) - (m : Int) < (n : Int)) = false := decide_eq_false (by omega)
        obtain ⟨h0f, hst⟩ := CL.out.step hlt HT1.out HT2.out rfl (by rw [HQ.out.2.1, HQ.out.2.2]; omega) (by rw [HQ.out.1, HQ.out.2.1]; omega)
        rw [HQ.out.2.1, HQ.out.2.2] at hst
        rw [HQ.out.2.2] at h0f
        obtain ⟨f, hff⟩ : ∃ f : Nat, fr = (f : Int) := ⟨fr.toNat, by omega⟩
        subst hff
        rw [Int.toNat_natCast] at hst
        have ST := Lib.hid hst
        have hfn : f + n ≤ 65536 := by omega
        have hn1 : 1 ≤ n := by have := HQ.out.2.1; omega
        clear hst
        go_wp2_with fail
        go_loopw [10, 16] (fun v10 v16 wl => ∃ k : Nat, v16 = .int .i64 (k : Int) ∧ k ≤ n ∧ DTR w wr rd rb aB dB B tb p3 false [⟨77, v10, u32V (l ++ row (f, k))⟩] K2 wl) (fun _ v16 _ => n - (intOf v16).toNat)
        case atStart => exact ⟨0, rfl, Nat.zero_le _, by show DTR _ _ _ _ _ _ _ _ _ _ [⟨_, _, u32V (l ++ [])⟩] _ _; rw [List.append_nil]; exact D4.out⟩
        case round =>
         rename World => wi
         obtain ⟨k, rfl, hkn, hDk⟩ := hrel
         have Dk := Lib.hid hDk
         have hlk : (l ++ row (f, k)).length = m + k := by rw [List.length_append, HQ.out.1]; unfold row; rw [List.length_range']
         by_cases hkl : k < n
         ·have r1 : IntKind.i64.wrap ((f : Int) + (k : Int)) = (f : Int) + (k : Int) := IntWalk.i64_in _ (by omega)
          have r2 : IntKind.u32.wrap ((f : Int) + (k : Int)) = ((f + k : Nat) : Int) := by rw [IntKind.wrap_u32]; omega
          have own5 := (hDk.next ((Below.refl _ _).alloc (Nat.le_refl wi.heap.size) (.cells #[.int .u32 ((f + k : Nat) : Int)] 77))).own
          unfold Rw.owned at own5
          dsimp only at own5
          rw [u32V_length, hlk] at own5
          have OA := Lib.hid own5
          have C3 : Hid (m + k + 1 ≤ maxLen) := Lib.hid (by simp only [maxLen]; omega)
          have C4 : Hid ((m + k + 1) * 4 ≤ 140737488355328) := Lib.hid (by omega)
          have DA := Lib.hid (hDk.next ((Below.refl _ _).alloc (Nat.le_refl wi.heap.size) (.cells #[.int .u32 ((f + k : Nat) : Int)] 77)))
          have RW : Hid (l ++ row (f, k + 1) = (l ++ row (f, k)) ++ [f + k]) := Lib.hid (by unfold row; rw [List.append_assoc, List.range'_1_concat])
          have i5 : decide ((k : Int) < (n : Int)) = true := decide_eq_true (by omega)
          clear hDk own5
          go_wp2_with (at_builtin; refine wpList_append_at _ rfl _ _ 34 rfl 0 77 j0 _ 1 4 Tryz.underlying34 hj hj0 hj1 hj2 rfl (by decide) _ (m + k) _ rfl OA.out _ 1 1 [.int .u32 ((f + k : Nat) : Int)] rfl rfl (cell_one_new _ _ _) (fun u hu => by simp at hu; subst hu; rfl) C3.out C4.out (Nat.zero_le _) (by decide) ?_)
          intro v8 w8 own8 hg8 hw8
          have D8 : Hid (DTR w wr rd rb aB dB B tb p3 false [⟨77, v8, u32V (l ++ row (f, k + 1))⟩] K2 w8) := Lib.hid (by
           rw [RW.out]
           refine DA.out.push (v' := v8) (xs' := u32V ((l ++ row (f, k)) ++ [f + k])) ?_ hg8 (by simpa using hw8)
           rw [u32V_length, List.length_append, hlk, u32V_append]
           exact own8)
          clear own8 hg8 hw8 OA DA
          go_wp2_with fail
          go_roundw
          case rel => exact ⟨k + 1, by go_num, by omega, D8.out⟩
          case measure => simp [intOf]; try omega
         ·have hkn2 : k = n := by omega
          subst hkn2
          have i5 : decide ((k : Int) < (k : Int)) = false := decide_eq_false (by omega)
          have r3 : IntKind.i64.wrap ((f : Int) + (k : Int) - 1) = ((f + k - 1 : Nat) : Int) := by rw [IntWalk.i64_in _ (by omega)]; omega
          clear hDk
          go_wp2_with fail
          go_roundw
          case rel => exact ⟨i + 1, some (f + k - 1), l ++ row (f, k), p3, false, rfl, by go_num, ST.out, Dk.out⟩
          case measure => simp [intOf]; try omega
  ·have hiz : i = z := by omega
   have i1 : decide ((i : Int) < (z : Int)) = false := decide_eq_false (by omega)
   have CF := Lib.hid (CL.out.fin (.inl hiz))
   go_wp2_with fail
   exact bodyPost_ret (v := u10) (by simp [results, Tryz.results85, go_sem]) rfl ⟨u10, l, p', _, rfl, CF.out, LS.out _ _ _ _ D.out⟩
end Go.Proofs.YtflnpcgnenhogaaGreatDoor.ls
namespace Go.Proofs.YtflnpcgnenhogaaGreatDoor.ls
open Go.RowKit Go.Proofs.YtflnpcgnenhogaaGreatDoor.own Go.Proofs.YtflnpcgnenhogaaGreatDoor.bit

/-- two lists as one; none where heads are alike -/
def mrg : List Nat → List Nat → Option (List Nat)
 | [], b => some b
 | x :: a, [] => some (x :: a)
 | x :: a, y :: b => if x < y then (mrg a (y :: b)).map (x :: ·) else if x = y then none else (mrg (x :: a) b).map (y :: ·)
termination_by a b => a.length + b.length
theorem mrg_nil (a : List Nat) : mrg a [] = some a := by
 cases a <;> simp [mrg]
theorem mrg_nil' (b : List Nat) : mrg [] b = some b := by simp [mrg]
theorem mrg_lt {x y : Nat} {a b : List Nat} (h : x < y) : mrg (x :: a) (y :: b) = (mrg a (y :: b)).map (x :: ·) := by
 rw [mrg, if_pos h]
theorem mrg_eq {x : Nat} {a b : List Nat} : mrg (x :: a) (x :: b) = none := by
 rw [mrg, if_neg (Nat.lt_irrefl _), if_pos rfl]
theorem mrg_gt {x y : Nat} {a b : List Nat} (h : y < x) : mrg (x :: a) (y :: b) = (mrg (x :: a) b).map (y :: ·) := by
 rw [mrg, if_neg (by omega), if_neg (by omega)]
theorem mrg_mem : ∀ (n : Nat) (a b l : List Nat), a.length + b.length ≤ n → mrg a b = some l → List.Perm l (a ++ b)
 | _, [], b, l, _, h => by rw [mrg_nil'] at h; cases h; exact List.Perm.refl _
 | _, x :: a, [], l, _, h => by rw [mrg_nil] at h; cases h; rw [List.append_nil]
 | 0, x :: a, y :: b, l, hn, h => by simp at hn
 | n + 1, x :: a, y :: b, l, hn, h => by
  simp only [List.length_cons] at hn
  rcases Nat.lt_trichotomy x y with hxy | rfl | hxy
  ·rw [mrg_lt hxy] at h
   cases hm : mrg a (y :: b) with
   | none => rw [hm] at h; cases h
   | some l' =>
    rw [hm] at h
    cases h
    exact List.Perm.cons x (mrg_mem n a (y :: b) l' (by simp only [List.length_cons]; omega) hm)
  ·rw [mrg_eq] at h; cases h
  ·rw [mrg_gt hxy] at h
   cases hm : mrg (x :: a) b with
   | none => rw [hm] at h; cases h
   | some l' =>
    rw [hm] at h
    cases h
    exact (List.Perm.cons y (mrg_mem n (x :: a) b l' (by simp only [List.length_cons]; omega) hm)).trans List.perm_middle.symm
/-- what is merged of rising lists rises -/
theorem mrg_ris : ∀ (n : Nat) (a b l : List Nat), a.length + b.length ≤ n → a.Pairwise (· < ·) → b.Pairwise (· < ·) → mrg a b = some l → l.Pairwise (· < ·)
 | _, [], b, l, _, _, hb, h => by rw [mrg_nil'] at h; cases h; exact hb
 | _, x :: a, [], l, _, ha, _, h => by rw [mrg_nil] at h; cases h; exact ha
 | 0, x :: a, y :: b, l, hn, _, _, h => by simp at hn
 | n + 1, x :: a, y :: b, l, hn, ha, hb, h => by
  simp only [List.length_cons] at hn
  have ha' := List.pairwise_cons.1 ha
  have hb' := List.pairwise_cons.1 hb
  rcases Nat.lt_trichotomy x y with hxy | rfl | hxy
  ·rw [mrg_lt hxy] at h
   cases hm : mrg a (y :: b) with
   | none => rw [hm] at h; cases h
   | some l' =>
    rw [hm] at h
    cases h
    have hp := mrg_mem _ _ _ _ (Nat.le_refl _) hm
    refine List.pairwise_cons.2 ⟨fun v hv => ?_, mrg_ris n a (y :: b) l' (by simp only [List.length_cons]; omega) ha'.2 hb hm⟩
    rcases List.mem_append.1 (hp.mem_iff.1 hv) with hv | hv
    ·exact ha'.1 v hv
    ·rcases List.mem_cons.1 hv with rfl | hv
     ·exact hxy
     ·exact Nat.lt_trans hxy (hb'.1 v hv)
  ·rw [mrg_eq] at h; cases h
  ·rw [mrg_gt hxy] at h
   cases hm : mrg (x :: a) b with
   | none => rw [hm] at h; cases h
   | some l' =>
    rw [hm] at h
    cases h
    have hp := mrg_mem _ _ _ _ (Nat.le_refl _) hm
    refine List.pairwise_cons.2 ⟨fun v hv => ?_, mrg_ris n (x :: a) b l' (by simp only [List.length_cons]; omega) ha hb'.2 hm⟩
    rcases List.mem_append.1 (hp.mem_iff.1 hv) with hv | hv
    ·rcases List.mem_cons.1 hv with rfl | hv
     ·exact hxy
     ·exact Nat.lt_trans hxy (ha'.1 v hv)
    ·exact hb'.1 v hv
/-- rising lists that share nothing are merged -/
theorem mrg_some : ∀ (n : Nat) (a b : List Nat), a.length + b.length ≤ n → a.Pairwise (· < ·) → b.Pairwise (· < ·) → (∀ v ∈ a, v ∉ b) → ∃ l, mrg a b = some l
 | _, [], b, _, _, _, _ => ⟨b, mrg_nil' b⟩
 | _, x :: a, [], _, _, _, _ => ⟨x :: a, mrg_nil _⟩
 | 0, x :: a, y :: b, hn, _, _, _ => by simp at hn
 | n + 1, x :: a, y :: b, hn, ha, hb, hd => by
  simp only [List.length_cons] at hn
  rcases Nat.lt_trichotomy x y with hxy | rfl | hxy
  ·obtain ⟨l, hl⟩ := mrg_some n a (y :: b) (by simp only [List.length_cons]; omega) (List.pairwise_cons.1 ha).2 hb (fun v hv => hd v (List.mem_cons_of_mem _ hv))
   exact ⟨x :: l, by rw [mrg_lt hxy, hl]; rfl⟩
  ·exact absurd (List.mem_cons_self ..) (hd x (List.mem_cons_self ..))
  ·obtain ⟨l, hl⟩ := mrg_some n (x :: a) b (by simp only [List.length_cons]; omega) ha (List.pairwise_cons.1 hb).2 (fun v hv h => hd v hv (List.mem_cons_of_mem _ h))
   exact ⟨y :: l, by rw [mrg_gt hxy, hl]; rfl⟩
end Go.Proofs.YtflnpcgnenhogaaGreatDoor.ls
