/- Own lemmas, laid together. -/
import Derived.Test.YtflnpcgnenhogaaGreatDoorBe24
import Derived.Test.YtflnpcgnenhogaaGreatDoorBe15
import Derived.Test.YtflnpcgnenhogaaGreatDoorBe22
import Derived.Test.YtflnpcgnenhogaaGreatDoorBe23
import Derived.Test.YtflnpcgnenhogaaGreatDoorBe14
import Derived.Deep.RegionLaw
namespace Go.Proofs.YtflnpcgnenhogaaGreatDoor.ls
open Go.RowKit Go.Proofs.YtflnpcgnenhogaaGreatDoor.own Go.Proofs.YtflnpcgnenhogaaGreatDoor.bit

/-- a row of the call's own, and blocks beside it that stand still -/
def LG (T : TypeId) (sz : Nat) (w0 : World) (ks : List (Nat × Obj)) (n : Nat) (xs : List Value) (v : Value) (W : World) : Prop :=
 Below w0.heap.size w0 W ∧ W.ownsRow w0.heap.size T sz v n xs ∧ ∀ p ∈ ks, W.heap[p.1]? = some p.2 ∧ some p.1 ≠ v.ownBlock
section
variable {T : TypeId} {sz : Nat} {w0 W : World} {ks : List (Nat × Obj)} {n : Nat} {xs : List Value} {v : Value}
theorem LG.next (h : LG T sz w0 ks n xs v W) {W' : World} (k : Below W.heap.size W W') : LG T sz w0 ks n xs v W' :=
 ⟨h.1.trans (k.mono h.1.size), own_below h.2.1 k, fun p hp => ⟨(k.block _ (lt_of_block (h.2.2 p hp).1)).trans (h.2.2 p hp).1, (h.2.2 p hp).2⟩⟩
theorem LG.drew (h : LG T sz w0 ks n xs v W) : LG T sz w0 ks n xs v W.drew := h.next (Below.drew (Below.refl _ _))
theorem LG.row (h : LG T sz w0 ks n xs v W) {b : Nat} {o : Obj} (hm : (b, o) ∈ ks) : W.heap[b]? = some o := (h.2.2 _ hm).1
theorem LG.sub (h : LG T sz w0 ks n xs v W) {ks' : List (Nat × Obj)} (hs : ∀ p ∈ ks', p ∈ ks) : LG T sz w0 ks' n xs v W := ⟨h.1, h.2.1, fun p hp => h.2.2 p (hs p hp)⟩
theorem LG.keep (h : LG T sz w0 ks n xs v W) (row : Array Value) (U : TypeId) : LG T sz w0 ((W.heap.size, .cells row U (0, 0)) :: ks) n xs v (W.alloc (.cells row U)) := by
 have k : Below W.heap.size W (W.alloc (.cells row U)) := (Below.refl _ _).alloc (Nat.le_refl _) _
 obtain ⟨h1, h2, h3⟩ := h.next k
 refine ⟨h1, h2, fun p hp => ?_⟩
 rcases List.mem_cons.1 hp with rfl | hp
 ·exact ⟨heap_alloc_new W _, fun e => by have := (h.2.1.lt _ e.symm).2; exact absurd this (Nat.lt_irrefl _)⟩
 ·exact h3 p hp
/-- a block that stands there beside -/
theorem LG.with (h : LG T sz w0 ks n xs v W) {b : Nat} {o : Obj} (hb : W.heap[b]? = some o) (hne : some b ≠ v.ownBlock) : LG T sz w0 ((b, o) :: ks) n xs v W := by
 refine ⟨h.1, h.2.1, fun p hp => ?_⟩
 rcases List.mem_cons.1 hp with rfl | hp
 ·exact ⟨hb, hne⟩
 ·exact h.2.2 p hp
theorem LG.grow (h : LG T sz w0 ks n xs v W) {W2 : World} {v' : Value} {n' : Nat} {xs' : List Value} (own : W2.ownsRow w0.heap.size T sz v' n' xs') (hg : W.grownBy W2 v.ownBlock) (hw : v'.ownBlock = v.ownBlock ∨ v'.ownBlock = some W.heap.size) : LG T sz w0 ks n' xs' v' W2 := by
 obtain ⟨h1, h2, h3⟩ := h
 refine ⟨h1.grown hg h1.size (fun k hk => (h2.lt k hk).1), own, fun p hp => ?_⟩
 obtain ⟨h4, h5⟩ := h3 p hp
 refine ⟨(hg.block _ (lt_of_block h4) h5).trans h4, fun e => ?_⟩
 rcases hw with h | h
 ·exact h5 (e.trans h)
 ·rw [h] at e
  injection e with e
  have := lt_of_block h4
  omega
end
/-- the bits so far -/
def LO (w0 : World) (ks : List (Nat × Obj)) (out : Bits) (v : Value) (W : World) : Prop := LG 4 1 w0 ks out.length (bls out) v W
theorem LO.grow {w0 W : World} {ks : List (Nat × Obj)} {out : Bits} {v : Value} (h : LO w0 ks out v W) {W2 : World} {v' : Value} (bs : Bits) (m : Nat) (hm : bs.length = m) (own : W2.ownsRow w0.heap.size 4 1 v' (out.length + m) (bls out ++ bls bs)) (hg : W.grownBy W2 v.ownBlock) (hw : v'.ownBlock = v.ownBlock ∨ v'.ownBlock = some W.heap.size) : LO w0 ks (out ++ bs) v' W2 := by
 refine LG.grow h ?_ hg hw
 rw [List.length_append, hm, ← bls_append]
 exact own

/-! ### Zig, zig, Bits, gamma -/
set_option maxRecDepth 100000 in
theorem dZig_any (z : Int) (h1 : -1000000 ≤ z) (h2 : z ≤ 1000000) (w : World) : Calls Tryz.prog 118 #[.int .i64 z] w fun e w' => e = .returned (.int .u64 ((zig z : Nat) : Int)) ∧ w = w' := by
 obtain ⟨k, hk⟩ : ∃ k, zig z = k := ⟨_, rfl⟩
 rw [hk]
 by_cases h0 : 0 ≤ z
 ·obtain ⟨n, rfl⟩ : ∃ n : Nat, z = (n : Int) := ⟨z.toNat, by omega⟩
  have e : 2 * (n : Int) = (k : Int) := by unfold zig at hk; rw [if_pos h0] at hk; omega
  have i1 : decide ((0 : Int) ≤ (n : Int)) = true := decide_eq_true h0
  clear hk h0 h1
  go_enter Tryz.func118, Tryz.ntmps118
  go_wp2_with fail
  go_ret
  exact ⟨rfl, rfl⟩
 ·obtain ⟨n, hn⟩ : ∃ n : Nat, -(z + 1) = (n : Int) := ⟨(-(z + 1)).toNat, by omega⟩
  have e : 2 * (n : Int) + 1 = (k : Int) := by unfold zig at hk; rw [if_neg h0] at hk; omega
  have i1 : decide ((0 : Int) ≤ z) = false := decide_eq_false h0
  have n9 : n ≤ 1000000 := by omega
  clear hk
  go_enter Tryz.func118, Tryz.ntmps118
  go_wp2_with fail
  go_ret
  exact ⟨rfl, rfl⟩
set_option maxRecDepth 100000 in
theorem dzig_any (v x : Nat) (hv : v < 65536) (hx : x < 65536) (w : World) : Calls Tryz.prog 94 #[.int .u32 (v : Int), .int .i64 (x : Int)] w fun e w' => e = .returned (.int .i64 ((zig ((v : Int) - x) : Nat) : Int)) ∧ w = w' := by
 have ZG := Lib.hid (fun W => dZig_any ((v : Int) - (x : Int)) (by omega) (by omega) W)
 have hz := zig_lt2 (v := v) (x := x) hv hx
 obtain ⟨k, hk⟩ : ∃ k, zig ((v : Int) - x) = k := ⟨_, rfl⟩
 rw [hk] at ZG hz ⊢
 clear hk
 go_enter Tryz.func94, Tryz.ntmps94
 go_wp2_with fail
 with_reducible refine (ZG.out _).mono ?_
 rintro e w2 ⟨rfl, rfl⟩
 go_wp2_with fail
 go_ret
 exact ⟨rfl, rfl⟩
/-- two rows of a call's own, the second laid behind the first -/
theorem below_app {w W W3 : World} {vu v3 : Value} {A B : Bits} {a b : Nat} (kk : Below w.heap.size w W) (pu : W.ownsRow w.heap.size 4 1 vu a (bls A)) (own3 : W3.ownsRow w.heap.size 4 1 v3 (a + b) (bls A ++ bls B)) (hg3 : W.grownBy W3 vu.ownBlock) (hl : (A ++ B).length = a + b) : RowPost (A ++ B) w (.returned v3) W3 :=
 ⟨v3, rfl, by rw [hl, ← bls_append]; exact own3, kk.grown hg3 kk.size (fun k hk => (pu.lt k hk).1)⟩
set_option maxRecDepth 100000 in
set_option maxHeartbeats 3200000 in
theorem dbits_gam (v : Nat) (hv : v ≤ 1000000) (w : World) : Calls Tryz.prog 90 #[.agg #[.int .u8 1, .int .u64 0], .int .u64 (v : Int)] w (RowPost (cb .gam v) w) := by
 obtain ⟨i0, hi, hz0, hz1, hz2⟩ := info_parts Tryz.infoBool
 have LOW := Lib.hid (fun W => low_any (v + 1) (by omega) (by omega) W)
 have hlog : Nat.log2 (v + 1) < 20 := log_lt (by rw [show (2 : Nat) ^ 20 = 1048576 from rfl]; omega)
 have h1 := Nat.log2_self_le (n := v + 1) (by omega)
 have HC : Hid (cb .gam v = un (Nat.log2 (v + 1)) ++ ofN (Nat.log2 (v + 1)) (v + 1 - 2 ^ Nat.log2 (v + 1))) := Lib.hid (cb_gam v)
 obtain ⟨b, hb⟩ : ∃ b, Nat.log2 (v + 1) = b := ⟨_, rfl⟩
 obtain ⟨n, hn⟩ : ∃ n, v + 1 = n := ⟨_, rfl⟩
 rw [hb, hn] at HC
 rw [hn] at LOW h1
 rw [hn] at hb
 rw [hb] at LOW h1
 obtain ⟨q, hq⟩ : ∃ q, 2 ^ b = q := ⟨_, rfl⟩
 rw [hq] at HC h1
 have hb20 : b < 20 := by rw [← hb, ← hn]; exact hlog
 have hnI : (v : Int) + 1 = (n : Int) := by omega
 obtain ⟨d, hd⟩ : ∃ d, n - q = d := ⟨_, rfl⟩
 rw [hd] at HC
 have e3 := u64_pow b q hq (by omega)
 have e4 := u64_sub n q h1 (by omega)
 rw [hd] at e4
 have d9 : d ≤ 1000001 := by omega
 have UN := Lib.hid (fun W => unary_any b (by omega) W)
 have OF := Lib.hid (fun W => Of_any b d (by omega) (by omega) W)
 have wbb : IntKind.u64.wrap (b : Int) = (b : Int) := IntWalk.u64_in _ (by omega)
 clear hlog hb hn hq hd h1
 go_enter Tryz.func90, Tryz.ntmps90
 go_wp2_with fail
 with_reducible refine (LOW.out _).mono ?_
 rintro e w2 ⟨rfl, rfl⟩
 go_upto_region 7 with fail
 have kk : Below w.heap.size w (w.alloc (.cells #[.int .u8 1, .int .u64 0] 104)) := (Below.refl _ _).alloc (Nat.le_refl _) _
 generalize World.alloc w _ = W1 at kk ⊢
 have kk := Below.drew kk
 go_region_law (first
   | (go_simp; go_at_call 115; (try rw [wbb]); (with_reducible refine (UN.out _).mono ?_); rintro e w2 ⟨v2, rfl, o2, k2⟩; have pu := own_base o2 kk.size; (try have po := own_below po k2); have kk := kk.trans (k2.mono kk.size); clear o2 k2; rw [un_length] at pu; dsimp only)
   | (go_simp; go_at_call 116; (try rw [wbb]); (with_reducible refine (OF.out _).mono ?_); rintro e w2 ⟨v2, rfl, o2, k2⟩; have po := own_base o2 kk.size; (try have pu := own_below pu k2); have kk := kk.trans (k2.mono kk.size); clear o2 k2; rw [ofN_length] at po; dsimp only)
   | (refine wp_append_row _ (by rfl) (.tmp 24) (.tmp 30) 26 rfl w.heap.size w.heap.size 4 i0 (.bool false) 1 Tryz.underlying26 hi hz0 hz1 hz2 rfl _ _ _ rfl pu _ _ _ rfl po (bls_one _) (by simp only [maxLen]; omega) (by omega) kk.size ?_; intro v3 w3 own3 hg3 hw3; have U3 := Lib.hid (below_app kk pu own3 hg3 (by rw [List.length_append, un_length, ofN_length])); obtain ⟨a3, cap3, rfl⟩ := own_shape own3; clear own3 hg3 hw3))
 all_goals
  go_wp2_with fail
  go_ret
  rw [HC.out]
  exact U3.out
set_option maxRecDepth 100000 in
theorem dbits_una (v : Nat) (hv : v ≤ 65535) (w : World) : Calls Tryz.prog 90 #[.agg #[.int .u8 0, .int .u64 0], .int .u64 (v : Int)] w (RowPost (cb .una v) w) := by
 have LOW := Lib.hid (fun W => low_any (v + 1) (by omega) (by omega) W)
 have hlog : Nat.log2 (v + 1) < 20 := log_lt (by rw [show (2 : Nat) ^ 20 = 1048576 from rfl]; omega)
 obtain ⟨b, hb⟩ : ∃ b, Nat.log2 (v + 1) = b := ⟨_, rfl⟩
 obtain ⟨n, hn⟩ : ∃ n, v + 1 = n := ⟨_, rfl⟩
 rw [hn] at LOW hb hlog
 rw [hb] at LOW hlog
 have hnI : (v : Int) + 1 = (n : Int) := by omega
 have UN := Lib.hid (fun W => unary_any v hv W)
 rw [cb_una]
 clear hb hn
 go_enter Tryz.func90, Tryz.ntmps90
 go_wp2_with fail
 with_reducible refine (LOW.out _).mono ?_
 rintro e w2 ⟨rfl, rfl⟩
 go_wp2_with fail
 with_reducible refine (UN.out _).mono ?_
 rintro e w2 ⟨v2, rfl, o2, k2⟩
 have kk : Below w.heap.size w (w.alloc (.cells #[.int .u8 0, .int .u64 0] 104)) := (Below.refl _ _).alloc (Nat.le_refl _) _
 have pu := own_base o2 kk.size
 have kk := kk.trans (k2.mono kk.size)
 clear o2 k2
 go_wp2_with fail
 go_ret
 exact ⟨_, rfl, pu, kk⟩
set_option maxRecDepth 100000 in
set_option maxHeartbeats 3200000 in
theorem dbits_zet (k v : Nat) (hk1 : 1 ≤ k) (hk2 : k ≤ 16) (hv : v ≤ 1000000) (w : World) : Calls Tryz.prog 90 #[.agg #[.int .u8 3, .int .u64 (k : Int)], .int .u64 (v : Int)] w (RowPost (cb (.zet k) v) w) := by
 obtain ⟨i0, hi, hz0, hz1, hz2⟩ := info_parts Tryz.infoBool
 have LOW := Lib.hid (fun W => low_any (v + 1) (by omega) (by omega) W)
 have hlog : Nat.log2 (v + 1) < 20 := log_lt (by rw [show (2 : Nat) ^ 20 = 1048576 from rfl]; omega)
 obtain ⟨p1, p2⟩ := zet_parts k v hk1
 have HC := Lib.hid (cb_zet k v)
 obtain ⟨b, hb⟩ : ∃ b, Nat.log2 (v + 1) = b := ⟨_, rfl⟩
 obtain ⟨n, hn⟩ : ∃ n, v + 1 = n := ⟨_, rfl⟩
 rw [hb, hn] at HC p1 p2
 rw [hn] at LOW hb hlog
 rw [hb] at LOW hlog
 have hnI : (v : Int) + 1 = (n : Int) := by omega
 obtain ⟨h, hh⟩ : ∃ h, b / k = h := ⟨_, rfl⟩
 rw [hh] at p1 p2 HC
 have hhk : h * k ≤ b := by rw [← hh]; exact Nat.div_mul_le_self b k
 have hhb : h ≤ b := by rw [← hh]; exact Nat.div_le_self b k
 obtain ⟨m, hm⟩ : ∃ m, h * k = m := ⟨_, rfl⟩
 have hm1 : (h + 1) * k = m + k := by rw [Nat.add_mul, hm, Nat.one_mul]
 rw [hm1, hm] at p1 HC
 rw [hm] at p2 hhk
 have g1 : m + k ≤ 62 := by clear p1 p2 HC LOW; omega
 have g2 : m ≤ 62 := by clear p1 p2 HC LOW; omega
 have g3 : h ≤ 9223372036854775806 := by clear p1 p2 HC LOW; omega
 have g4 : h ≤ 65535 := by clear p1 p2 HC LOW; omega
 have g5 : n ≤ 9223372036854775808 := by clear p1 p2 HC LOW; omega
 have g6 : k ≤ 9223372036854775807 := by clear p1 p2 HC LOW; omega
 have hh20 : h < 20 := by clear p1 p2 HC LOW; omega
 obtain ⟨fr, hfr⟩ : ∃ fr, 2 ^ m = fr := ⟨_, rfl⟩
 obtain ⟨tt, htt⟩ : ∃ tt, 2 ^ (m + k) = tt := ⟨_, rfl⟩
 have htt2 : tt ≤ 9223372036854775808 := htt ▸ pow63 (Nat.le_trans g1 (by decide))
 have hcl : clog (tt - fr) ≤ 62 := clog_pow (Nat.le_trans (Nat.sub_le _ _) (htt ▸ Nat.pow_le_pow_right (by decide) g1))
 have hfr2 : fr ≤ tt := by rw [← hfr, ← htt]; exact Nat.pow_le_pow_right (by decide) (Nat.le_add_right _ _)
 rw [hfr, htt] at p1 HC
 rw [hfr] at p2
 have ML : (mini (n - fr) (tt - fr)).length ≤ 62 := Nat.le_trans (mini_le _ _) hcl
 have UN := Lib.hid (fun W => unary_any h g4 W)
 have MN := Lib.hid (fun W => minimal_any (n - fr) (tt - fr) (Nat.lt_of_le_of_lt (Nat.zero_le _) p1) hcl p1 W)
 obtain ⟨M, hM⟩ : ∃ M, mini (n - fr) (tt - fr) = M := ⟨_, rfl⟩
 rw [hM] at ML MN HC
 have f0 := w64_nat k g6
 have f0' := i64_nat k g6
 have f1 := quo_nat b k h hh
 have f2 := int_nz k hk1
 have f3 := i64_mul h k m hm (Nat.le_trans g2 (by decide))
 have f3' : IntKind.i64.wrap (((h : Int) + 1) * (k : Int)) = ((m + k : Nat) : Int) := i64_mul (h + 1) k (m + k) hm1 (Nat.le_trans g1 (by decide))
 have f5 := u64_pow m fr hfr (Nat.le_trans hfr2 htt2)
 have f8 := u64_pow (m + k) tt htt htt2
 have f6 := u64_sub n fr p2 g5
 have f9 := u64_sub tt fr hfr2 htt2
 have f10 := i64_nat h (Nat.le_succ_of_le g3)
 have f10' : IntKind.i64.wrap ((h : Int) + 1) = ((h + 1 : Nat) : Int) := i64_nat (h + 1) (Nat.succ_le_succ g3)
 have f12 : IntKind.u64.wrap (h : Int) = (h : Int) := IntWalk.u64_in _ ⟨Int.natCast_nonneg h, Int.le_trans (Int.ofNat_le.2 g4) (by decide)⟩
 clear hb hn p1 p2 hh hhk hhb hm hm1 hfr htt hcl hM htt2 hfr2 g3 g4 g5 g6 hlog
 go_enter Tryz.func90, Tryz.ntmps90
 go_wp2_with fail
 with_reducible refine (LOW.out _).mono ?_
 rintro e w2 ⟨rfl, rfl⟩
 go_wp2_with fail
 rw [f8]
 with_reducible refine (UN.out _).mono ?_
 rintro e w2 ⟨v2, rfl, o2, k2⟩
 have kk : Below w.heap.size w (w.alloc (.cells #[.int .u8 3, .int .u64 (k : Int)] 104)) := (Below.refl _ _).alloc (Nat.le_refl _) _
 have pu := own_base o2 kk.size
 have kk := kk.trans (k2.mono kk.size)
 clear o2 k2
 rw [un_length] at pu
 go_wp2_with fail
 with_reducible refine (MN.out _).mono ?_
 rintro e w3 ⟨v3, rfl, o3, k3⟩
 have po := own_base o3 kk.size
 have pu := own_below pu k3
 have kk := kk.trans (k3.mono kk.size)
 clear o3 k3
 have C3 : h + 1 + M.length ≤ maxLen := by simp only [maxLen]; omega
 have C4 : (h + 1 + M.length) * 1 ≤ 140737488355328 := by omega
 go_wp2_with (at_builtin; refine wpList_append_row _ rfl _ _ 26 rfl w.heap.size w.heap.size 4 i0 _ 1 Tryz.underlying26 hi hz0 hz1 hz2 rfl _ _ _ rfl pu _ _ _ rfl po (bls_one _) C3 C4 kk.size ?_)
 intro v4 w4 own4 hg4 _
 have U4 := Lib.hid (below_app kk pu own4 hg4 (by rw [List.length_append, un_length]))
 obtain ⟨a4, cap4, rfl⟩ := own_shape own4
 clear own4 hg4
 go_wp2_with fail
 go_ret
 rw [HC.out]
 exact U4.out
set_option maxRecDepth 100000 in
theorem gamma_any (v : Nat) (hv : v ≤ 1000000) (w : World) : Calls Tryz.prog 89 #[.int .i64 (v : Int)] w (RowPost (cb .gam v) w) := by
 have f12 : IntKind.u64.wrap (v : Int) = (v : Int) := IntWalk.u64_in _ (by omega)
 have G := Lib.hid (fun W => dbits_gam v hv W)
 go_enter Tryz.func89, Tryz.ntmps89
 go_wp2_with fail
 with_reducible refine (G.out _).mono ?_
 rintro e w2 ⟨v2, rfl, o2, k2⟩
 obtain ⟨a2, c2, rfl⟩ := own_shape o2
 have o3 := Lib.hid (And.intro o2 k2)
 clear o2 k2
 go_wp2_with fail
 go_ret
 exact ⟨_, rfl, o3.out.1, o3.out.2⟩
end Go.Proofs.YtflnpcgnenhogaaGreatDoor.ls
namespace Go.Proofs.YtflnpcgnenhogaaGreatDoor.ls
open Go.RowKit Go.Proofs.YtflnpcgnenhogaaGreatDoor.own Go.Proofs.YtflnpcgnenhogaaGreatDoor.bit

/-- a row of new bits, laid behind the bits so far -/
theorem LO.put {w0 W W2 W3 : World} {ks : List (Nat × Obj)} {out bs : Bits} {v v3 : Value} (h : LO w0 ks out v W) (k2 : Below W.heap.size W W2) (own3 : W3.ownsRow w0.heap.size 4 1 v3 (out.length + bs.length) (bls out ++ bls bs)) (hg : W2.grownBy W3 v.ownBlock) (hw : v3.ownBlock = v.ownBlock ∨ v3.ownBlock = some W2.heap.size) : LO w0 ks (out ++ bs) v3 W3 :=
 LO.grow (LG.next h k2) bs _ rfl own3 hg hw
theorem LO.own {w0 W W2 : World} {ks : List (Nat × Obj)} {out : Bits} {v : Value} (h : LO w0 ks out v W) (k2 : Below W.heap.size W W2) : W2.ownsRow w0.heap.size 4 1 v out.length (bls out) := (LG.next h k2).2.1
theorem LO.first {w0 W W2 : World} {ks : List (Nat × Obj)} {bs : Bits} {v v2 : Value} (h : LO w0 ks [] v W) (o2 : W2.ownsRow W.heap.size 4 1 v2 bs.length (bls bs)) (k2 : Below W.heap.size W W2) : LO w0 ks bs v2 W2 :=
 ⟨h.1.trans (k2.mono h.1.size), own_base o2 h.1.size, fun p hp => ⟨(k2.block _ (lt_of_block (h.2.2 p hp).1)).trans (h.2.2 p hp).1, fun e => absurd (o2.lt _ e.symm).1 (Nat.not_le_of_gt (lt_of_block (h.2.2 p hp).1))⟩⟩
/-- a row that a callee made stands beside, still -/
theorem LO.beside {w0 W W2 : World} {ks : List (Nat × Obj)} {out : Bits} {v vR : Value} {T : TypeId} {sz n : Nat} {xs : List Value} (h : LO w0 ks out v W) (k2 : Below W.heap.size W W2) (hR : W2.ownsRow W.heap.size T sz vR n xs) (hn : 0 < n) :
  ∃ g cap cur, vR = .slice (some ⟨g, 0, none⟩) n cap ∧ n ≤ cap ∧ LO w0 ((g, .cells cur T (0, 0)) :: ks) out v W2 ∧ ∀ W' : World, W'.heap[g]? = some (.cells cur T (0, 0)) → ∀ j u, xs[j]? = some u → W'.cell? ⟨g, j, none⟩ = some u := by
 obtain ⟨a0, cap0, e0, hcap⟩ := own_slice hR
 rcases hR.2 with ⟨_, h0⟩ | ⟨g, cap, cur, rfl, hb, hgg, _, _, _, htake⟩
 ·omega
 ·injection e0 with e1 e2 e3
  refine ⟨g, cap, cur, rfl, by rw [e3]; exact hcap, LG.with (LG.next h k2) hgg (fun e => ?_), fun W' hW j u hu => ?_⟩
  ·have := (h.2.1.lt _ e.symm).2
   omega
  ·rw [cell_of_row W' g j cur T (0, 0) hW]
   rw [← htake, List.getElem?_take] at hu
   split at hu
   ·simpa using hu
   ·cases hu
/-- the same of a row that may be empty: what stands beside grows, and reads it -/
theorem LO.besides {w0 W W2 : World} {ks : List (Nat × Obj)} {out : Bits} {v : Value} {a : Option Addr} {d : Nat} {T : TypeId} {sz n : Nat} {xs : List Value} (h : LO w0 ks out v W2) (hR : W2.ownsRow W.heap.size T sz (.slice a n d) n xs) (hne : ∀ g, a = some ⟨g, 0, none⟩ → some g ≠ v.ownBlock) :
  ∃ ks', (∀ p ∈ ks, p ∈ ks') ∧ LO w0 ks' out v W2 ∧ ∀ W' : World, (∀ p ∈ ks', W'.heap[p.1]? = some p.2) → ∀ j u, xs[j]? = some u → ∃ g, a = some ⟨g, 0, none⟩ ∧ W'.cell? ⟨g, j, none⟩ = some u := by
 rcases hR.2 with ⟨e0, h0⟩ | ⟨g, cap, cur, e0, hb, hgg, _, _, _, htake⟩
 ·refine ⟨ks, fun p hp => hp, h, fun W' _ j u hu => ?_⟩
  have hx := hR.1
  rw [h0, Nat.zero_mul] at hx
  rw [List.eq_nil_of_length_eq_zero hx] at hu
  cases hu
 ·injection e0 with e1 e2 e3
  subst e1
  refine ⟨_, fun p hp => List.mem_cons_of_mem _ hp, LG.with h hgg (hne g rfl), fun W' hW j u hu => ⟨g, rfl, ?_⟩⟩
  rw [cell_of_row W' g j cur T (0, 0) (hW _ (List.mem_cons_self ..))]
  rw [← htake, List.getElem?_take] at hu
  split at hu
  ·simpa using hu
  ·cases hu
theorem LO.low {w0 W : World} {ks : List (Nat × Obj)} {out : Bits} {v : Value} (h : LO w0 ks out v W) : Below w0.heap.size w0 W := h.1
theorem rnm_get : ∀ (k : Nat) (I : List Nat) (i : Nat) (h : i < I.length), (rnm k I)[i]? = some (I[i] - min (k + i) 1)
 | _, [], _, h => absurd h (Nat.not_lt_zero _)
 | k, n :: I, 0, _ => by unfold rnm; simp
 | k, n :: I, i + 1, h => by
  unfold rnm
  rw [List.getElem?_cons_succ, rnm_get (k + 1) I i (by simpa using h), List.getElem_cons_succ, show k + 1 + i = k + (i + 1) by omega]
theorem piV_get : ∀ (L : List (Nat × Nat)) (i : Nat) (h : i < L.length), (piV L)[i * 2]? = some (.int .u32 (L[i].1 : Int)) ∧ (piV L)[i * 2 + 1]? = some (.int .i64 (L[i].2 : Int))
 | q :: L, 0, _ => ⟨rfl, rfl⟩
 | q :: L, i + 1, h => by
  have := piV_get L i (by simpa using h)
  have e : piV (q :: L) = .int .u32 (q.1 : Int) :: .int .i64 (q.2 : Int) :: piV L := rfl
  rw [e, show (i + 1) * 2 = i * 2 + 1 + 1 by omega, List.getElem?_cons_succ, List.getElem?_cons_succ, List.getElem?_cons_succ, List.getElem?_cons_succ]
  exact this
theorem lnm_take (x itv : Nat) : ∀ (k : Nat) (e : Option Nat) (l : List (Nat × Nat)), lnm x itv e (l.take k) = (lnm x itv e l).take (2 * k)
 | 0, e, l => by rw [List.take_zero, Nat.mul_zero, List.take_zero]; cases e <;> rfl
 | k + 1, e, [] => by rw [List.take_nil, show lnm x itv e [] = [] by cases e <;> rfl, List.take_nil]
 | k + 1, e, (f, n) :: l => by rw [List.take_succ_cons, lnm_cons, lnm_cons, lnm_take x itv k, show 2 * (k + 1) = 2 * k + 1 + 1 by omega, List.take_succ_cons, List.take_succ_cons]
theorem znm_take (x : Nat) : ∀ (k : Nat) (e : Option Nat) (l : List Nat), znm x e (l.take k) = (znm x e l).take k
 | 0, e, l => by rw [List.take_zero, List.take_zero]; cases e <;> rfl
 | k + 1, none, [] => rfl
 | k + 1, some _, [] => rfl
 | k + 1, none, a :: l => by rw [List.take_succ_cons]; show _ :: znm x (some a) (l.take k) = (_ :: znm x (some a) l).take (k + 1); rw [znm_take x k, List.take_succ_cons]
 | k + 1, some _, a :: l => by rw [List.take_succ_cons]; show _ :: znm x (some a) (l.take k) = (_ :: znm x (some a) l).take (k + 1); rw [znm_take x k, List.take_succ_cons]
theorem gap_wrap (f g n v : Nat) (h1 : f < 65536) (h2 : g + n ≤ 65536) (h3 : f - (g + n - 1) - 2 = v) (h4 : g + n - 1 + 2 ≤ f ∧ 0 < n) : IntKind.i64.wrap (IntKind.i64.wrap (IntKind.i64.wrap (IntKind.i64.wrap (IntKind.i64.wrap (f : Int) - IntKind.i64.wrap (g : Int)) - (n : Int)) + 1) - 2) = (v : Int) := by
 obtain ⟨h4, h5⟩ := h4
 rw [i64_nat f (by omega), i64_nat g (by omega), i64_diff f g (by omega) (by omega), IntWalk.i64_in ((f : Int) - (g : Int) - (n : Int)) (by omega), IntWalk.i64_in ((f : Int) - (g : Int) - (n : Int) + 1) (by omega), IntWalk.i64_in _ (by omega)]
 omega
theorem rest_wrap (v u z : Nat) (h1 : v < 65536) (h2 : u < v) (h3 : v - u - 1 = z) : IntKind.u64.wrap (IntKind.u32.wrap (IntKind.u32.wrap ((v : Int) - (u : Int)) - 1)) = (z : Int) := by
 have e1 : IntKind.u32.wrap ((v : Int) - (u : Int)) = (v : Int) - (u : Int) := by rw [IntKind.wrap_u32]; omega
 have e2 : IntKind.u32.wrap ((v : Int) - (u : Int) - 1) = (z : Int) := by rw [IntKind.wrap_u32]; omega
 rw [e1, e2, IntWalk.u64_in _ (by omega)]
theorem LO.post {w0 W : World} {ks : List (Nat × Obj)} {out : Bits} {v : Value} (h : LO w0 ks out v W) : RowPost out w0 (.returned v) W := ⟨v, rfl, h.2.1, h.1⟩

/-- the bits so far, and the row of what is left growing beside -/
def LT (w0 : World) (ks : List (Nat × Obj)) (out : Bits) (v : Value) (L : List Nat) (u : Value) (W : World) : Prop :=
 LO w0 ks out v W ∧ W.ownsRow w0.heap.size 77 1 u L.length (u32V L) ∧ (∀ g, v.ownBlock = some g → u.ownBlock ≠ some g) ∧ ∀ p ∈ ks, some p.1 ≠ u.ownBlock
theorem LT.add1 {w0 W W2 : World} {ks : List (Nat × Obj)} {out : Bits} {v : Value} {L : List Nat} {u u' : Value} (h : LT w0 ks out v L u W) (x : Nat) (o : Obj) (own : W2.ownsRow w0.heap.size 77 1 u' (L.length + 1) (u32V L ++ [.int .u32 (x : Int)])) (hg : (W.alloc o).grownBy W2 u.ownBlock) (hw : u'.ownBlock = u.ownBlock ∨ u'.ownBlock = some (W.heap.size + 1)) : LT w0 ks out v (L ++ [x]) u' W2 := by
 obtain ⟨⟨h1, h2, h3⟩, h4, h5, h6⟩ := h
 have hs : (W.alloc o).heap.size = W.heap.size + 1 := by simp
 refine ⟨⟨(h1.alloc h1.size o).grown hg (by have := h1.size; omega) (fun k hk => (h4.lt k hk).1), (h2.alloc o).kept hg ?_, fun p hp => ?_⟩, ?_, fun g hgv => ?_, fun p hp => ?_⟩
 ·cases hv : v.ownBlock with
  | none => exact .inl rfl
  | some g => exact .inr (fun e => h5 g hv e.symm)
 ·have hlt := lt_of_block (h3 p hp).1
  exact ⟨(hg.block _ (by omega) (h6 p hp)).trans ((heap_alloc_old W o hlt).trans (h3 p hp).1), (h3 p hp).2⟩
 ·rw [List.length_append, u32V_append]; exact own
 ·rcases hw with e | e
  ·rw [e]; exact h5 g hgv
  ·rw [e]
   intro e2
   injection e2 with e2
   have := (h2.lt g hgv).2
   omega
 ·rcases hw with e | e
  ·rw [e]; exact h6 p hp
  ·rw [e]
   intro e2
   injection e2 with e2
   have := lt_of_block (h3 p hp).1
   omega
set_option maxRecDepth 100000 in
set_option maxHeartbeats 6400000 in
theorem dlaid_any (p : Pr) (x : Nat) (w : World) (a : Option Addr) (succ : List Nat) (cap : Nat) (b : Option Addr) (ref : List Nat) (capb r : Nat) (hc : succ.length ≤ cap) (_hcb : ref.length ≤ capb) (hm : MayN x succ ref r p) (hA : LV w a succ) (hB : LV w b ref) :
  Calls Tryz.prog 55 #[.int .i64 (x : Int), .slice a succ.length cap, .slice b ref.length capb, .int .i64 (r : Int), parV (p.win : Int) (p.itv : Int) (p.zet : Int)] w (RowPost (lay x succ ref r p) w) := by
 obtain ⟨i0, hi, hz0, hz1, hz2⟩ := info_parts Tryz.infoBool
 have LL := Lib.hid (lay_len hm)
 have MN := Lib.hid hm
 have GA := Lib.hid (fun v h W => gamma_any v h W)
 obtain ⟨⟨m1, m2, m3, m4⟩, m5, m6, m7, m8, m9⟩ := hm
 have hlen := m6.len
 have LY : Hid (lay x succ ref r p = cb .gam succ.length ++ bitsOf (if succ = [] then [] else (if 0 < p.win then [(.una, r)] else [])) ++ bitsOf (tlN x succ ref r p)) := Lib.hid (by unfold lay nums hdN; rw [bitsOf_append, bitsOf_cons])
 have H := Lib.hid (And.intro hA hB)
 unfold parV
 clear hA hB
 go_enter Tryz.func55, Tryz.ntmps55
 go_upto_region 1 with fail
 have H0 : LO w [(w.heap.size, .cells #[.int .i64 (p.win : Int), .int .i64 (p.itv : Int), .int .i64 (p.zet : Int)] 36 (0, 0))] [] (.slice none 0 0) (w.alloc (.cells #[.int .i64 (p.win : Int), .int .i64 (p.itv : Int), .int .i64 (p.zet : Int)] 36)) := LG.keep (ks := []) ⟨Below.refl _ _, World.ownsRow_nil _ _ _ _, fun _ h => by cases h⟩ _ _
 obtain ⟨W1, hW1⟩ : ∃ W, World.alloc w (.cells #[.int .i64 (p.win : Int), .int .i64 (p.itv : Int), .int .i64 (p.zet : Int)] 36) = W := ⟨_, rfl⟩
 rw [hW1] at H0
 rw [hW1]
 have H0 := Lib.hid H0
 obtain ⟨N, hN⟩ : ∃ N, succ.length = N := ⟨_, rfl⟩
 have HN := Lib.hid hN
 have hN9 : N ≤ 65536 := by omega
 rw [hN] at hc ⊢
 go_wp2_with fail
 with_reducible refine (GA.out N (by omega) _).mono ?_
 rintro e W2 ⟨v2, rfl, o2, k2⟩
 have H1 := Lib.hid (LO.first H0.out o2 k2)
 have K1 : Hid (Below w.heap.size w W2) := Lib.hid H1.out.1
 obtain ⟨s2, d2, rfl⟩ := own_shape o2
 generalize (cb Cd.gam N).length = l1 at H1 ⊢
 clear o2 k2 H0
 by_cases hs : succ = []
 ·have hN0 : N = 0 := by rw [← hN, hs]; rfl
  have E : Hid (lay x succ ref r p = cb .gam N) := Lib.hid (by rw [LY.out, HN.out, if_pos hs]; unfold tlN; rw [if_pos hs]; simp [bitsOf_nil])
  clear hN hs LY
  subst hN0
  go_wp2_with fail
  go_ret
  rw [E.out]
  exact H1.out.post
 ·have hN0 : ¬ (N : Int) = 0 := by
   intro h
   exact hs (List.eq_nil_of_length_eq_zero (by omega))
  have LY2 : Hid (lay x succ ref r p = cb .gam N ++ (if 0 < p.win then cb .una r else []) ++ bitsOf (runN succ ref r) ++ bitsOf (restN x (leftOf succ ref) p)) := Lib.hid (by
   rw [LY.out, HN.out, if_neg hs]; unfold tlN; rw [if_neg hs, bitsOf_append]
   split <;> simp [bitsOf_nil, bitsOf_cons, List.append_assoc])
  clear LY
  have HS := Lib.hid hs
  clear hs
  have hNb : ((N : Int) == 0) = false := beq_eq_false_iff_ne.2 hN0
  obtain ⟨wn, hwn⟩ : ∃ n, p.win = n := ⟨_, rfl⟩
  obtain ⟨iv, hiv⟩ : ∃ n, p.itv = n := ⟨_, rfl⟩
  obtain ⟨zt, hzt⟩ : ∃ n, p.zet = n := ⟨_, rfl⟩
  rw [hwn] at m1 m8 LY2
  rw [hiv] at m2
  rw [hzt] at m3 m4
  rw [hwn, hiv, hzt] at H1
  have c0 : W2.cell? ⟨w.heap.size, 0, none⟩ = some (.int .i64 (wn : Int)) := by rw [cell_of_row _ _ _ _ _ _ (H1.out.row (List.mem_singleton.2 rfl))]; rfl
  go_upto_if 30 with fail
  go_cut [11] from 28 to 36 (fun v11 wc => LO w [(w.heap.size, .cells #[.int .i64 (wn : Int), .int .i64 (iv : Int), .int .i64 (zt : Int)] 36 (0, 0))] (cb .gam N ++ (if 0 < wn then cb .una r else [])) v11 wc)
  case first =>
   by_cases hw0 : 0 < wn
   ·have i1 : decide ((0 : Int) < (wn : Int)) = true := decide_eq_true (by omega)
    have i1n : decide (0 < wn) = true := decide_eq_true hw0
    have f12 : IntKind.u64.wrap (r : Int) = (r : Int) := IntWalk.u64_in _ (by omega)
    have BU := Lib.hid (fun W => dbits_una r (by omega) W)
    have CL : (cb .gam N).length + (cb .una r).length ≤ 5243040 := by
     have := LL.out
     rw [LY2.out, if_pos hw0] at this
     simp only [List.length_append] at this
     omega
    have C3 : Hid ((cb .gam N).length + (cb .una r).length ≤ maxLen) := Lib.hid (by simp only [maxLen]; omega)
    have C4 : Hid (((cb .gam N).length + (cb .una r).length) * 1 ≤ 140737488355328) := Lib.hid (by omega)
    go_wp2_with fail
    with_reducible refine (BU.out _).mono ?_
    rintro e W3 ⟨v3, rfl, o3, k3⟩
    have pu := H1.out.own k3
    have ks := Nat.le_trans K1.out.size k3.size
    go_wp2_with (at_builtin; refine wpList_append_row _ rfl _ _ 26 rfl w.heap.size W2.heap.size 4 i0 _ 1 Tryz.underlying26 hi hz0 hz1 hz2 rfl _ _ _ rfl pu _ _ _ rfl o3 (bls_one _) C3.out C4.out ks ?_)
    intro v4 W4 own4 hg4 hw4
    have N1 := Lib.hid (H1.out.put k3 own4 hg4 hw4)
    clear own4 hg4 hw4 pu o3 k3
    go_wp2_with fail
    go_meet
    case rel => rw [if_pos hw0]; exact N1.out
   ·have i1 : decide ((0 : Int) < (wn : Int)) = false := decide_eq_false (by omega)
    have i1n : decide (0 < wn) = false := decide_eq_false hw0
    go_wp2_with fail
    go_meet
    case rel => rw [if_neg hw0, List.append_nil]; exact H1.out
  case rest =>
   have HCT := Lib.hid hcut
   obtain ⟨O1, hO1⟩ : ∃ O, cb .gam N ++ (if 0 < wn then cb .una r else []) = O := ⟨_, rfl⟩
   rw [hO1] at HCT LY2
   clear hcut hO1 H1 c0 K1
   go_upto_if 38 with fail
   go_cut [11, 12, 13] from 37 to 70 (fun v11 _ _ wc => LO w [(w.heap.size, .cells #[.int .i64 (wn : Int), .int .i64 (iv : Int), .int .i64 (zt : Int)] 36 (0, 0))] (O1 ++ bitsOf (runN succ ref r)) v11 wc)
   case first =>
    by_cases hr0 : 0 < r
    ·have i1 : decide ((0 : Int) < (r : Int)) = true := decide_eq_true (by omega)
     have i1n : decide (0 < r) = true := decide_eq_true hr0
     have AB := Lib.hid (fun W (k : Below w.heap.size w W) => druns_any W a succ cap b ref capb (H.out.1.below k) (H.out.2.below k) m6 m7)
     have RN : Hid (bitsOf (runN succ ref r) = cb .gam (runs succ ref).1.length ++ bitsOf ((rnm 0 (runs succ ref).1).map (fun v => (Cd.gam, v)))) := Lib.hid (by unfold runN; rw [if_pos hr0, bitsOf_cons])
     have NK : ∀ q ∈ (Cd.gam, (runs succ ref).1.length) :: (rnm 0 (runs succ ref).1).map (fun v => (Cd.gam, v)), q.2 < 262144 := fun q hq => ((nums_ok MN.out).1 q (by
      unfold nums tlN runN
      rw [if_neg HS.out, if_pos hr0]
      exact List.mem_append_right _ (List.mem_append_left _ hq))).2.1
     have RO := (runs_ok succ ref).pos
     obtain ⟨⟨I, z⟩, hQ⟩ : ∃ Q, runs succ ref = Q := ⟨_, rfl⟩
     have RO : ∀ i (h : i < I.length), 0 < i → 0 < I[i] := by rw [hQ] at RO; exact RO
     rw [hQ] at AB RN NK
     rw [HN.out] at AB
     dsimp only at AB RN NK
     obtain ⟨n, hn⟩ : ∃ n, I.length = n := ⟨_, rfl⟩
     have hn9 : n < 262144 := by rw [← hn]; exact NK _ (List.mem_cons_self ..)
     have RL : Hid (∀ i (h : i < n), (rnm 0 I)[i]? = some ((I[i]'(by omega)) - min i 1) ∧ (I[i]'(by omega)) - min i 1 < 262144 ∧ (0 < i → 0 < I[i]'(by omega))) := Lib.hid (fun i h => by
      have e := rnm_get 0 I i (by omega)
      rw [Nat.zero_add] at e
      exact ⟨e, NK (Cd.gam, _) (List.mem_cons_of_mem _ (List.mem_map.2 ⟨_, List.mem_of_getElem? e, rfl⟩)), fun h0 => RO i (by omega) h0⟩)
     have RV : Hid (∀ i (h : i < n), (runV (I, z))[i]? = some (.int .i64 ((I[i]'(by omega) : Nat) : Int))) := Lib.hid (fun i h => by
      unfold runV intV
      dsimp only
      rw [List.map_append, List.getElem?_append_left (by rw [List.length_map]; omega), List.getElem?_map, List.getElem?_eq_getElem (by omega)]
      rfl)
     have LB : Hid (((rnm 0 I).map (fun v => (Cd.gam, v))).length = n) := Lib.hid (by rw [List.length_map, rnm_length]; exact hn)
     have CL : O1.length + (cb .gam n).length + (bitsOf ((rnm 0 I).map (fun v => (Cd.gam, v)))).length ≤ 5243040 := by
      have := LL.out
      rw [LY2.out, RN.out, hn] at this
      simp only [List.length_append] at this
      omega
     rw [hn] at AB RN
     clear NK RO hQ
     go_wp2_with fail
     with_reducible refine (AB.out _ HCT.out.low).mono ?_
     rintro e W3 ⟨vR, rfl, oR, k3⟩
     obtain ⟨g, capR, cur, rfl, hcR, h3, hcell⟩ := HCT.out.beside k3 oR (Nat.succ_pos _)
     have HCL := Lib.hid hcell
     have H3 := Lib.hid h3
     obtain ⟨s3, d3, rfl⟩ := own_shape h3.2.1
     have wn1 : wrap64 (((n + 1 : Nat) : Int) - 1) = (n : Int) := by rw [IntWalk.wrap64_in _ (by omega)]; omega
     clear k3 oR h3 hcell
     go_wp2_with fail
     with_reducible refine (GA.out n (by omega) _).mono ?_
     rintro e W4 ⟨v4, rfl, o4, k4⟩
     have C3 : Hid (O1.length + (cb .gam n).length ≤ maxLen) := Lib.hid (by simp only [maxLen]; omega)
     have C4 : Hid ((O1.length + (cb .gam n).length) * 1 ≤ 140737488355328) := Lib.hid (by omega)
     have pu := H3.out.own k4
     have ks := Nat.le_trans H3.out.low.size k4.size
     go_wp2_with (at_builtin; refine wpList_append_row _ rfl _ _ 26 rfl w.heap.size W3.heap.size 4 i0 _ 1 Tryz.underlying26 hi hz0 hz1 hz2 rfl _ _ _ rfl pu _ _ _ rfl o4 (bls_one _) C3.out C4.out ks ?_)
     intro v5 W5 own5 hg5 hw5
     have N1 := Lib.hid (H3.out.put k4 own5 hg5 hw5)
     clear own5 hg5 hw5 pu o4 k4 ks
     obtain ⟨B, hB⟩ : ∃ B, (rnm 0 I).map (fun v => (Cd.gam, v)) = B := ⟨_, rfl⟩
     rw [hB] at RN LB
     obtain ⟨O2, hO2⟩ : ∃ O, O1 ++ cb .gam n = O := ⟨_, rfl⟩
     rw [hO2] at N1
     have HB2 := Lib.hid (And.intro hB hO2)
     have CL2 : Hid (O2.length + (bitsOf B).length ≤ 5243040) := Lib.hid (by rw [← hO2, ← hB, List.length_append]; exact CL)
     clear hB hO2 CL
     go_wp2_with fail
     go_loopw [11, 13] (fun v11 v13 wr => ∃ i : Nat, i ≤ n ∧ v13 = .int .i64 (i : Int) ∧ LO w [(g, .cells cur 3 (0, 0)), (w.heap.size, .cells #[.int .i64 (wn : Int), .int .i64 (iv : Int), .int .i64 (zt : Int)] 36 (0, 0))] (O2 ++ bitsOf (B.take i)) v11 wr)
      (fun _ v13 _ => n - (intOf v13).toNat)
     case atStart => exact ⟨0, Nat.zero_le _, rfl, by rw [List.take_zero, bitsOf_nil, List.append_nil]; exact N1.out⟩
     case round =>
      obtain ⟨i, hin, rfl, hW⟩ := hrel
      rename World => wr
      obtain ⟨s5, d5, rfl⟩ := own_shape hW.2.1
      have HW := Lib.hid hW
      clear hW
      by_cases hilt : i < n
      ·have ci := HCL.out wr (HW.out.row (List.mem_cons_self ..)) i _ (RV.out i hilt)
       obtain ⟨e1, e2, e3⟩ := RL.out i hilt
       obtain ⟨q, hq⟩ : ∃ q, I[i]'(by omega) = q := ⟨_, rfl⟩
       rw [hq] at ci e1 e2 e3
       obtain ⟨m, hm⟩ : ∃ m, q - min i 1 = m := ⟨_, rfl⟩
       rw [hm] at e1 e2
       have BT : bitsOf (B.take (i + 1)) = bitsOf (B.take i) ++ cb .gam m := by
        have hb : i < B.length := by rw [LB.out]; exact hilt
        have e4 : B[i] = (Cd.gam, m) := by
         have : B[i]? = some (Cd.gam, m) := by rw [← HB2.out.1, List.getElem?_map, e1]; rfl
         rw [List.getElem?_eq_getElem hb] at this
         exact Option.some.inj this
        rw [bitsOf_take B i hb, e4]
       obtain ⟨O3, hO3⟩ : ∃ O, O2 ++ bitsOf (B.take i) = O := ⟨_, rfl⟩
       rw [hO3] at HW ⊢
       have CL3 : O3.length + (cb .gam m).length ≤ 5243040 := by
        have h1 := bits_take_le B (i + 1)
        rw [BT, List.length_append] at h1
        have h2 := CL2.out
        rw [← hO3, List.length_append]
        omega
       have C3 : Hid (O3.length + (cb .gam m).length ≤ maxLen) := Lib.hid (by simp only [maxLen]; omega)
       have C4 : Hid ((O3.length + (cb .gam m).length) * 1 ≤ 140737488355328) := Lib.hid (by omega)
       have RS : Hid (O2 ++ bitsOf (B.take (i + 1)) = O3 ++ cb .gam m) := Lib.hid (by rw [BT, ← hO3, List.append_assoc])
       clear e1 BT CL3 hO3 hq
       by_cases h0 : i = 0
       ·subst h0
        have hmq : q = m := by omega
        subst hmq
        go_wp2_with fail
        with_reducible refine (GA.out q (by omega) _).mono ?_
        rintro e W6 ⟨v6, rfl, o6, k6⟩
        have pu := HW.out.own k6
        have ks := Nat.le_trans HW.out.low.size k6.size
        go_wp2_with (at_builtin; refine wpList_append_row _ rfl _ _ 26 rfl w.heap.size wr.heap.size 4 i0 _ 1 Tryz.underlying26 hi hz0 hz1 hz2 rfl _ _ _ rfl pu _ _ _ rfl o6 (bls_one _) C3.out C4.out ks ?_)
        intro v7 W7 own7 hg7 hw7
        have N2 := Lib.hid (HW.out.put k6 own7 hg7 hw7)
        clear own7 hg7 hw7 pu o6 k6 ks
        go_wp2_with fail
        go_roundw
        case rel => exact ⟨0 + 1, hilt, by go_num, by rw [RS.out]; exact N2.out⟩
        case measure => simp [intOf]; try omega
       ·have hmq : (q : Int) - 1 = (m : Int) := by have := e3 (by omega); omega
        have hib : ((i : Int) == 0) = false := beq_eq_false_iff_ne.2 (by omega)
        clear hm e3
        go_wp2_with fail
        with_reducible refine (GA.out m (by omega) _).mono ?_
        rintro e W6 ⟨v6, rfl, o6, k6⟩
        have pu := HW.out.own k6
        have ks := Nat.le_trans HW.out.low.size k6.size
        go_wp2_with (at_builtin; refine wpList_append_row _ rfl _ _ 26 rfl w.heap.size wr.heap.size 4 i0 _ 1 Tryz.underlying26 hi hz0 hz1 hz2 rfl _ _ _ rfl pu _ _ _ rfl o6 (bls_one _) C3.out C4.out ks ?_)
        intro v7 W7 own7 hg7 hw7
        have N2 := Lib.hid (HW.out.put k6 own7 hg7 hw7)
        clear own7 hg7 hw7 pu o6 k6 ks
        go_wp2_with fail
        go_roundw
        case rel => exact ⟨i + 1, hilt, by go_num, by rw [RS.out]; exact N2.out⟩
        case measure => simp [intOf]; try omega
      ·have hie : i = n := by omega
       subst hie
       have i5 : decide ((i : Int) + 1 < ((i + 1 : Nat) : Int)) = false := decide_eq_false (by omega)
       have FIN : Hid (O1 ++ bitsOf (runN succ ref r) = O2 ++ bitsOf (B.take i)) := Lib.hid (by
        rw [RN.out, List.take_of_length_le (by rw [LB.out]; exact Nat.le_refl _), ← HB2.out.2, List.append_assoc])
       go_wp2_with fail
       go_meet
       case rel => rw [FIN.out]; exact LG.sub HW.out (fun p hp => List.mem_cons_of_mem _ hp)
     all_goals skip
    ·have i1 : decide ((0 : Int) < (r : Int)) = false := decide_eq_false (by omega)
     have i1n : decide (0 < r) = false := decide_eq_false hr0
     go_wp2_with fail
     go_meet
     case rel => unfold runN; rw [if_neg hr0, bitsOf_nil, List.append_nil]; exact HCT.out
   case rest =>
    have HCT2 := Lib.hid hcut
    obtain ⟨O5, hO5⟩ : ∃ O, O1 ++ bitsOf (runN succ ref r) = O := ⟨_, rfl⟩
    rw [hO5] at HCT2 LY2
    clear hcut hO5 HCT
    obtain ⟨j0, hj, hj0, hj1, hj2⟩ := info_parts Tryz.infoU32
    have IN := Lib.hid (fun W (k : Below w.heap.size w W) v => in_any W b ref capb v (H.out.2.below k) m7.1)
    have LT0 : Hid (LT w [(w.heap.size, .cells #[.int .i64 (wn : Int), .int .i64 (iv : Int), .int .i64 (zt : Int)] 36 (0, 0))] O5 u11 [] (.slice none 0 0) wc) := Lib.hid ⟨HCT2.out, World.ownsRow_nil _ _ _ _, (fun g hg e => nomatch e), (fun p hp e => nomatch e)⟩
    clear HCT2
    go_wp2_with fail
    go_loopw [14, 15] (fun v14 v15 wr => ∃ i : Nat, i ≤ N ∧ v15 = .int .i64 (i : Int) ∧ LT w [(w.heap.size, .cells #[.int .i64 (wn : Int), .int .i64 (iv : Int), .int .i64 (zt : Int)] 36 (0, 0))] O5 u11 (leftOf (succ.take i) ref) v14 wr)
     (fun _ v15 _ => N - (intOf v15).toNat)
    case atStart => exact ⟨0, Nat.zero_le _, rfl, by rw [List.take_zero]; exact LT0.out⟩
    case round =>
     obtain ⟨i, hin, rfl, hT⟩ := hrel
     rename World => wr
     have HT := Lib.hid hT
     obtain ⟨s6, d6, rfl⟩ := own_shape hT.2.1
     clear hT
     by_cases hlt : i < N
     ·have i0' : decide ((i : Int) < (N : Int)) = true := decide_eq_true (by omega)
      have hil : i < succ.length := by rw [HN.out]; exact hlt
      obtain ⟨a0, ha0⟩ : ∃ x, succ[i] = x := ⟨_, rfl⟩
      obtain ⟨g, o, rfl⟩ := H.out.1.addr (by omega)
      have c0 : wr.cell? ⟨g, o + i, none⟩ = some (.int .u32 (a0 : Int)) := by
       obtain ⟨g', o', e, h3, _⟩ := (H.out.1.below HT.out.1.low).cellAt i hil
       injection e with e
       injection e with e1 e2
       subst e1 e2
       rw [h3, ha0]
      obtain ⟨bb, hbb⟩ : ∃ q, isIn ref a0 = q := ⟨_, rfl⟩
      have LS : Hid (leftOf (succ.take (i + 1)) ref = leftOf (succ.take i) ref ++ (if bb then [] else [a0])) := Lib.hid (by
       unfold leftOf
       rw [List.take_succ_eq_append_getElem hil, List.filter_append, ha0]
       congr 1
       rw [List.filter_cons, hbb]
       cases bb <;> rfl)
      have hLn : (leftOf (succ.take i) ref).length ≤ 65536 := Nat.le_trans (List.length_filter_le _ _) (by rw [List.length_take]; omega)
      obtain ⟨L, hL⟩ : ∃ L, leftOf (succ.take i) ref = L := ⟨_, rfl⟩
      rw [hL] at HT LS hLn ⊢
      have IN2 := Lib.hid (IN.out wr HT.out.1.low a0)
      rw [hbb] at IN2
      clear hL hbb ha0
      go_wp2_with fail
      with_reducible refine IN2.out.mono ?_
      rintro e w6 ⟨rfl, rfl⟩
      cases bb with
      | true =>
       go_wp2_with fail
       go_roundw
       case rel => exact ⟨i + 1, hlt, by go_num, by rw [LS.out]; simpa using HT.out⟩
       case measure => simp [intOf]; try omega
      | false =>
       have C3 : Hid (L.length + 1 ≤ maxLen) := Lib.hid (by simp only [maxLen]; omega)
       have C4 : Hid ((L.length + 1) * 4 ≤ 140737488355328) := Lib.hid (by omega)
       have C5 : Hid (w.heap.size ≤ wr.heap.size) := Lib.hid HT.out.1.low.size
       have ho := HT.out.2.1
       have C5' : Hid (w.heap.size ≤ (wr.alloc (.cells #[.int .u32 (a0 : Int)] 77)).heap.size) := Lib.hid (by simp; exact Nat.le_succ_of_le C5.out)
       have OA := Lib.hid (ho.alloc (.cells #[.int .u32 (a0 : Int)] 77))
       go_wp2_with (at_builtin; refine wpList_append_at _ rfl _ _ 34 rfl w.heap.size 77 j0 _ 1 4 Tryz.underlying34 hj hj0 hj1 hj2 rfl (by decide) _ L.length _ rfl OA.out ⟨wr.heap.size, 0, none⟩ 1 1 [.int .u32 (a0 : Int)] rfl rfl (cell_one_new _ _ _) (u32_one [a0]) C3.out C4.out C5'.out (by decide) ?_)
       intro v7 w7 own7 hg7 hw7
       have T2 := Lib.hid (HT.out.add1 a0 _ own7 hg7 hw7)
       clear ho own7 hg7 hw7
       go_wp2_with fail
       go_roundw
       case rel => exact ⟨i + 1, hlt, by go_num, by rw [LS.out]; simpa using T2.out⟩
       case measure => simp [intOf]; try omega
     ·have i0' : decide ((i : Int) < (N : Int)) = false := decide_eq_false (by omega)
      have hie : leftOf (succ.take i) ref = leftOf succ ref := by rw [List.take_of_length_le (by rw [HN.out]; omega)]
      obtain ⟨L, hL⟩ : ∃ L, leftOf succ ref = L := ⟨_, rfl⟩
      rw [hie, hL] at HT ⊢
      rw [hL] at LY2
      have HLF := Lib.hid hL
      clear hie hL
      by_cases hL0 : L = []
      ·have E : Hid (lay x succ ref r p = O5) := Lib.hid (by rw [LY2.out]; unfold restN; rw [if_pos hL0, bitsOf_nil, List.append_nil])
       subst hL0
       have hT1 := HT.out.1
       obtain ⟨s7, d7, rfl⟩ := own_shape hT1.2.1
       go_wp2_with fail
       go_ret
       rw [E.out]
       exact hT1.post
      ·have hRL : Ris L := by
        rw [← HLF.out]
        exact ⟨m6.1.sublist (List.filter_sublist ..), fun v hv => m6.2 v ((List.mem_filter.1 hv).1)⟩
       have hLl := hRL.len
       have hln : ¬ (L.length : Int) = 0 := fun h => hL0 (List.eq_nil_of_length_eq_zero (by omega))
       have hlnb : ((L.length : Int) == 0) = false := beq_eq_false_iff_ne.2 hln
       obtain ⟨aL, cL, eL, hcL, hLV⟩ := lv_own (by omega) (fun u hu => Nat.lt_of_lt_of_le (hRL.2 u hu) (by decide)) HT.out.2.1
       injection eL with eL1 eL2 eL3
       subst eL1 eL3
       have c1 : wr.cell? ⟨w.heap.size, 1, none⟩ = some (.int .i64 (iv : Int)) := by rw [cell_of_row _ _ _ _ _ _ (HT.out.1.row (List.mem_singleton.2 rfl))]; rfl
       have IV := Lib.hid (intervals_any wr s6 L d6 iv hcL (by omega) hLV hRL)
       clear hLV
       go_wp2_with fail
       with_reducible refine IV.out.mono ?_
       rintro e w8 ⟨v1, v2, rfl, hI⟩
       have HI := Lib.hid hI
       obtain ⟨a8, d8, rfl⟩ := own_shape hI.2.1
       obtain ⟨a9, d9, rfl⟩ := own_shape hI.2.2.1
       have HN8 : Hid (LO w [(w.heap.size, .cells #[.int .i64 (wn : Int), .int .i64 (iv : Int), .int .i64 (zt : Int)] 36 (0, 0))] O5 u11 w8) := Lib.hid (LG.next HT.out.1 hI.1)
       clear hI c1
       have c1 : w8.cell? ⟨w.heap.size, 1, none⟩ = some (.int .i64 (iv : Int)) := by rw [cell_of_row _ _ _ _ _ _ (HN8.out.row (List.mem_singleton.2 rfl))]; rfl
       have HLO := Lib.hid HT.out.1
       obtain ⟨⟨rws1, rst1⟩, hRW⟩ : ∃ Q, rws iv L = Q := ⟨_, rfl⟩
       have HRW := Lib.hid hRW
       rw [hRW] at HI ⊢
       dsimp only at HI ⊢
       obtain ⟨ks1, hs1, h8a, HC1⟩ := LO.besides HN8.out HI.out.2.1 (fun g e he => by
        have e1 := (HLO.out.2.1.lt g he.symm).2
        have e2 := (HI.out.2.1.lt g (by rw [e]; rfl)).1
        omega)
       obtain ⟨ks2, hs2, h8b, HC2⟩ := LO.besides h8a HI.out.2.2.1 (fun g e he => by
        have e1 := (HLO.out.2.1.lt g he.symm).2
        have e2 := (HI.out.2.2.1.lt g (by rw [e]; rfl)).1
        omega)
       have PB := Lib.hid (hs2 _ (hs1 _ (List.mem_singleton.2 rfl)))
       have HC1 := Lib.hid (fun W' (h : ∀ p ∈ ks2, W'.heap[p.1]? = some p.2) => HC1 W' (fun p hp => h p (hs2 p hp)))
       have HC2 := Lib.hid HC2
       have H8 := Lib.hid h8b
       clear h8a h8b hs1 hs2 hRW HN8 HI HLO
       have RB : Hid (bitsOf (restN x L p) = (if 0 < iv then cb .gam rws1.length else []) ++ bitsOf ((lnm x iv none rws1).map (fun v => (Cd.gam, v))) ++ bitsOf ((znm x none rst1).map (fun v => (Cd.zet zt, v)))) := Lib.hid (by
        unfold restN
        rw [if_neg hL0, hiv, hzt, HRW.out, bitsOf_append, bitsOf_append]
        congr 2
        split <;> simp [bitsOf_cons, bitsOf_nil])
       have NKR : Hid (∀ q ∈ restN x L p, q.2 < 262144) := Lib.hid (fun q hq => ((nums_ok MN.out).1 q (by
        unfold nums tlN
        rw [if_neg HS.out, HLF.out]
        exact List.mem_append_right _ (List.mem_append_right _ hq))).2.1)
       have CL : O5.length + (bitsOf (restN x L p)).length ≤ 5243040 := by
        have := LL.out
        rw [LY2.out] at this
        simpa only [List.length_append] using this
       go_upto_if 104 with fail
       go_cut [11] from 102 to 109 (fun v11 wc => LO w ks2 (O5 ++ (if 0 < iv then cb .gam rws1.length else [])) v11 wc)
       case first =>
        by_cases hv0 : 0 < iv
        ·have i1 : decide ((0 : Int) < (iv : Int)) = true := decide_eq_true (by omega)
         have i1n : decide (0 < iv) = true := decide_eq_true hv0
         have hnr : rws1.length < 262144 := NKR.out (Cd.gam, rws1.length) (by
          unfold restN
          rw [if_neg hL0, hiv, HRW.out, if_pos hv0]
          exact List.mem_append_left _ (List.mem_append_left _ (List.mem_singleton.2 rfl)))
         rw [RB.out, if_pos hv0] at CL
         simp only [List.length_append] at CL
         have C3 : Hid (O5.length + (cb .gam rws1.length).length ≤ maxLen) := Lib.hid (by simp only [maxLen]; omega)
         have C4 : Hid ((O5.length + (cb .gam rws1.length).length) * 1 ≤ 140737488355328) := Lib.hid (by omega)
         obtain ⟨s9, d9, rfl⟩ := own_shape H8.out.2.1
         clear CL
         go_wp2_with fail
         with_reducible refine (GA.out rws1.length (by omega) _).mono ?_
         rintro e W4 ⟨v4, rfl, o4, k4⟩
         have pu := H8.out.own k4
         have ks := Nat.le_trans H8.out.low.size k4.size
         go_wp2_with (at_builtin; refine wpList_append_row _ rfl _ _ 26 rfl w.heap.size w8.heap.size 4 i0 _ 1 Tryz.underlying26 hi hz0 hz1 hz2 rfl _ _ _ rfl pu _ _ _ rfl o4 (bls_one _) C3.out C4.out ks ?_)
         intro v5 W5 own5 hg5 hw5
         have N1 := Lib.hid (H8.out.put k4 own5 hg5 hw5)
         clear own5 hg5 hw5 pu o4 k4 ks
         go_wp2_with fail
         go_meet
         case rel => rw [if_pos hv0]; exact N1.out
        ·have i1 : decide ((0 : Int) < (iv : Int)) = false := decide_eq_false (by omega)
         have i1n : decide (0 < iv) = false := decide_eq_false hv0
         go_wp2_with fail
         go_meet
         case rel => rw [if_neg hv0, List.append_nil]; exact H8.out
       case rest =>
        have HC5 := Lib.hid hcut
        obtain ⟨O6, hO6⟩ : ∃ O, O5 ++ (if 0 < iv then cb .gam rws1.length else []) = O := ⟨_, rfl⟩
        rw [hO6] at HC5
        have LY3 : Hid (lay x succ ref r p = O6 ++ bitsOf ((lnm x iv none rws1).map (fun v => (Cd.gam, v))) ++ bitsOf ((znm x none rst1).map (fun v => (Cd.zet zt, v)))) := Lib.hid (by rw [LY2.out, RB.out, ← hO6]; simp only [List.append_assoc])
        have AP := Lib.hid (show Apart iv none rws1 from by have h := (rws_ok iv L hRL).apart; rw [HRW.out] at h; exact h)
        obtain ⟨np, hnp⟩ : ∃ np, rws1.length = np := ⟨_, rfl⟩
        obtain ⟨nr, hnr⟩ : ∃ nr, rst1.length = nr := ⟨_, rfl⟩
        have NKL : Hid (∀ v ∈ lnm x iv none rws1, v < 262144) := Lib.hid (fun v hv => NKR.out (Cd.gam, v) (by
         unfold restN
         rw [if_neg hL0, hiv, HRW.out]
         exact List.mem_append_left _ (List.mem_append_right _ (List.mem_map.2 ⟨v, hv, rfl⟩))))
        have NKZ : Hid (∀ v ∈ znm x none rst1, v < 262144) := Lib.hid (fun v hv => NKR.out (Cd.zet zt, v) (by
         unfold restN
         rw [if_neg hL0, hiv, hzt, HRW.out]
         exact List.mem_append_right _ (List.mem_map.2 ⟨v, hv, rfl⟩)))
        have CLR : Hid (∀ k, (O6 ++ bitsOf ((lnm x iv none (rws1.take k)).map (fun v => (Cd.gam, v)))).length + (bitsOf ((znm x none rst1).map (fun v => (Cd.zet zt, v)))).length ≤ 5243040) := Lib.hid (fun k => by
         have h1 := LL.out
         rw [LY3.out] at h1
         have h2 := bits_take_le ((lnm x iv none rws1).map (fun v => (Cd.gam, v))) (2 * k)
         rw [← List.map_take, ← lnm_take] at h2
         simp only [List.length_append] at h1 ⊢
         omega)
        have hnp9 : np < 262144 := by
         by_cases h0 : 0 < iv
         ·rw [← hnp]; exact NKR.out (Cd.gam, rws1.length) (by
           unfold restN
           rw [if_neg hL0, hiv, HRW.out, if_pos h0]
           exact List.mem_append_left _ (List.mem_append_left _ (List.mem_singleton.2 rfl)))
         ·have h2 := apart_len _ _ AP.out
          have h1 := (rws_ok iv L hRL).perm.length_eq
          rw [List.length_append, sumLen, HRW.out] at h1
          dsimp only at h1
          omega
        have hnr9 : nr < 262144 := by
         have h1 := (rws_ok iv L hRL).sub.length_le
         rw [HRW.out] at h1
         dsimp only at h1
         omega
        have HNP := Lib.hid hnp
        have HNR := Lib.hid hnr
        rw [hnp, hnr]
        clear hcut hO6 H8 CL hnp hnr
        go_wp2_with fail
        go_loopw [11, 18] (fun v11 v18 wr => ∃ i : Nat, i ≤ np ∧ v18 = .int .i64 (i : Int) ∧ LO w ks2 (O6 ++ bitsOf ((lnm x iv none (rws1.take i)).map (fun v => (Cd.gam, v)))) v11 wr)
         (fun _ v18 _ => np - (intOf v18).toNat)
        case atStart => exact ⟨0, Nat.zero_le _, rfl, by rw [List.take_zero]; unfold lnm; rw [List.map_nil, bitsOf_nil, List.append_nil]; exact HC5.out⟩
        case round =>
         obtain ⟨i, hin, rfl, hT⟩ := hrel
         rename World => wr
         obtain ⟨s5, d5, rfl⟩ := own_shape hT.2.1
         have HT := Lib.hid hT
         clear hT
         by_cases hlt : i < np
         ·--A1
          have hip : i < rws1.length := by rw [HNP.out]; exact hlt
          obtain ⟨g, rfl, p0⟩ := HC1.out wr (fun p hp => (HT.out.2.2 p hp).1) (i * 2) _ (piV_get rws1 i hip).1
          obtain ⟨g', eg, p1⟩ := HC1.out wr (fun p hp => (HT.out.2.2 p hp).1) (i * 2 + 1) _ (piV_get rws1 i hip).2
          obtain rfl : g' = g := by injection eg with eg; injection eg with eg; exact eg.symm
          obtain ⟨b0, b1, b2, b3⟩ := Apart.get AP.out i hip
          obtain ⟨f, hf⟩ : ∃ f, rws1[i].1 = f := ⟨_, rfl⟩
          obtain ⟨n', hn'⟩ : ∃ n', rws1[i].2 = n' := ⟨_, rfl⟩
          rw [hf] at p0 b2 b3
          rw [hn'] at p1 b0 b1 b2
          have TK : Hid (rws1.take (i + 1) = rws1.take i ++ [(f, n')]) := Lib.hid (by rw [List.take_succ_eq_append_getElem hip, ← hf, ← hn'])
          have SN := Lib.hid (lnm_snoc x iv none (rws1.take i) f n')
          rw [← TK.out] at SN
          obtain ⟨v0, hv0⟩ : ∃ v0, frstN x (lend none (rws1.take i)) f = v0 := ⟨_, rfl⟩
          rw [hv0] at SN
          have V0 := Lib.hid hv0
          obtain ⟨O7, hO7⟩ : ∃ O, O6 ++ bitsOf ((lnm x iv none (rws1.take i)).map (fun v => (Cd.gam, v))) = O := ⟨_, rfl⟩
          rw [hO7] at HT ⊢
          have LS : Hid (O6 ++ bitsOf ((lnm x iv none (rws1.take (i + 1))).map (fun v => (Cd.gam, v))) = O7 ++ cb .gam v0 ++ cb .gam (n' - iv)) := Lib.hid (by
           rw [SN.out, List.map_append, bitsOf_append, ← List.append_assoc, hO7]
           simp [bitsOf_cons, bitsOf_nil])
          have CLi : O7.length + (cb .gam v0).length + (cb .gam (n' - iv)).length ≤ 5243040 := by
           have h1 := CLR.out (i + 1)
           have h2 := congrArg List.length LS.out
           simp only [List.length_append] at h1 h2
           omega
          have hv9 : v0 < 262144 := NKL.out v0 (by
           have h1 : v0 ∈ lnm x iv none (rws1.take (i + 1)) := by rw [SN.out]; exact List.mem_append_right _ (List.mem_cons_self ..)
           rw [lnm_take] at h1
           exact List.mem_of_mem_take h1)
          have HN2 := Lib.hid hn'
          clear hf hn' hO7 hv0 eg
          have C3 : Hid (O7.length + (cb .gam v0).length ≤ maxLen) := Lib.hid (by simp only [maxLen]; omega)
          have C4 : Hid ((O7.length + (cb .gam v0).length) * 1 ≤ 140737488355328) := Lib.hid (by omega)
          have B3 := Lib.hid b3
          clear b3
          go_upto_if 117 with fail
          go_cut [11] from 116 to 152 (fun v11 wc => LO w ks2 (O7 ++ cb .gam v0) v11 wc)
          case first =>
           by_cases h0 : i = 0
           ·subst h0
            have ZG := Lib.hid (fun W => dzig_any f x (by omega) m5 W)
            have V1 : Hid (zig ((f : Int) - (x : Int)) = v0) := Lib.hid (by rw [← V0.out, List.take_zero]; rfl)
            rw [V1.out] at ZG
            rw [Nat.zero_mul] at p0
            go_wp2_with fail
            with_reducible refine (ZG.out _).mono ?_
            rintro e w2 ⟨rfl, rfl⟩
            go_wp2_with fail
            with_reducible refine (GA.out v0 (by omega) _).mono ?_
            rintro e W6 ⟨v6, rfl, o6, k6⟩
            have pu := HT.out.own k6
            have ks := Nat.le_trans HT.out.low.size k6.size
            go_wp2_with (at_builtin; refine wpList_append_row _ rfl _ _ 26 rfl w.heap.size wr.heap.size 4 i0 _ 1 Tryz.underlying26 hi hz0 hz1 hz2 rfl _ _ _ rfl pu _ _ _ rfl o6 (bls_one _) C3.out C4.out ks ?_)
            intro v7 W7 own7 hg7 hw7
            have N2 := Lib.hid (HT.out.put k6 own7 hg7 hw7)
            clear own7 hg7 hw7 pu o6 k6 ks
            go_wp2_with fail
            go_meet
            case rel => exact N2.out
           ·obtain ⟨j, hj⟩ : ∃ j, j + 1 = i := ⟨i - 1, by omega⟩
            have hjp : j < rws1.length := by rw [HNP.out]; omega
            obtain ⟨g2, eg, q0⟩ := HC1.out wr (fun p hp => (HT.out.2.2 p hp).1) (j * 2) _ (piV_get rws1 j hjp).1
            obtain rfl : g' = g2 := by injection eg with eg; injection eg with eg
            obtain ⟨g2, eg, q1⟩ := HC1.out wr (fun p hp => (HT.out.2.2 p hp).1) (j * 2 + 1) _ (piV_get rws1 j hjp).2
            obtain rfl : g' = g2 := by injection eg with eg; injection eg with eg
            obtain ⟨c0, c1, c2, c3⟩ := Apart.get AP.out j hjp
            have LD : lend none (rws1.take i) = some (rws1[j].1 + rws1[j].2 - 1) := by
             rw [← hj, List.take_succ_eq_append_getElem hjp]
             exact lend_snoc _ _ _ _
            have b4 := B3.out _ LD
            have V1 := V0.out
            rw [LD] at V1
            change f - _ - 2 = v0 at V1
            obtain ⟨f2, hf2⟩ : ∃ f, rws1[j].1 = f := ⟨_, rfl⟩
            obtain ⟨n2, hn2⟩ : ∃ n, rws1[j].2 = n := ⟨_, rfl⟩
            rw [hf2] at q0 c2 b4 V1
            rw [hn2] at q1 c0 c1 c2 b4 V1
            have a1 : IntKind.i64.wrap ((i : Int) - 1) = (j : Int) := by rw [IntWalk.i64_in _ (by omega)]; omega
            have a2 : (j : Int) < (np : Int) := by omega
            have a3 : (0 : Int) ≤ (j : Int) := Int.natCast_nonneg _
            have hib : ((i : Int) == 0) = false := beq_eq_false_iff_ne.2 (by omega)
            clear hf2 hn2 LD eg
            go_upto_region 31 with fail
            have Z5 := Lib.hid (gap_wrap f f2 n2 v0 (by omega) (by omega) V1 ⟨b4, c1⟩)
            clear V1 b4 c0 c1 c2 c3 eg b0 b2
            have HTD : Hid (LO w ks2 O7 (.slice s5 O7.length d5) wr.drew) := Lib.hid (LG.drew HT.out)
            --R31
            go_region_law (first
             | (go_simp; go_at_call 89; rw [Z5.out]; (with_reducible refine (GA.out v0 (by omega) _).mono ?_); rintro e W6 ⟨v6, rfl, o6, k6⟩; have pu := HTD.out.own k6; have ks := Nat.le_trans HTD.out.low.size k6.size; dsimp only)
             | (refine wp_append_row _ (by rfl) (.tmp 127) (.tmp 151) 26 rfl w.heap.size wr.heap.size 4 i0 (.bool false) 1 Tryz.underlying26 hi hz0 hz1 hz2 rfl _ _ _ rfl pu _ _ _ rfl o6 (bls_one _) C3.out C4.out ks ?_; intro v7 W7 own7 hg7 hw7; have N2 := Lib.hid (HTD.out.put k6 own7 hg7 hw7); obtain ⟨a3, cap3, rfl⟩ := own_shape own7; clear own7 hg7 hw7))
            all_goals
             go_wp2_with fail
             go_meet
            all_goals exact N2.out
          case rest =>
           have HU := Lib.hid hcut
           rename World => wq
           obtain ⟨s9, d9', rfl⟩ := own_shape HU.out.2.1
           clear hcut HT p0 p1
           obtain ⟨g2, eg, p1⟩ := HC1.out wq (fun p hp => (HU.out.2.2 p hp).1) (i * 2 + 1) _ (piV_get rws1 i hip).2
           obtain rfl : g' = g2 := by injection eg with eg; injection eg with eg
           have q1 : wq.cell? ⟨w.heap.size, 1, none⟩ = some (.int .i64 (iv : Int)) := by rw [cell_of_row _ _ _ _ _ _ (HU.out.row PB.out)]; rfl
           obtain ⟨O8, hO8⟩ : ∃ O, O7 ++ cb .gam v0 = O := ⟨_, rfl⟩
           obtain ⟨d, hd⟩ : ∃ d, n' - iv = d := ⟨_, rfl⟩
           rw [HN2.out] at p1
           rw [hO8] at HU LS ⊢
           rw [hd] at LS CLi
           have CL8 : O8.length + (cb .gam d).length ≤ 5243040 := by rw [← hO8, List.length_append]; omega
           have C3 : Hid (O8.length + (cb .gam d).length ≤ maxLen) := Lib.hid (by simp only [maxLen]; omega)
           have C4 : Hid ((O8.length + (cb .gam d).length) * 1 ≤ 140737488355328) := Lib.hid (by omega)
           have Z6 : Hid (IntKind.i64.wrap ((n' : Int) - (iv : Int)) = (d : Int)) := Lib.hid (by rw [IntWalk.i64_in _ (by omega)]; omega)
           have d9 : d < 262144 := by omega
           clear hO8 hd CLi CL8 eg b0 b1 b2 hv9
           go_upto_region 32 with fail
           have HTD : Hid (LO w ks2 O8 (.slice s9 O8.length d9') wq.drew) := Lib.hid (LG.drew HU.out)
           --R32
           go_region_law (first
            | (go_simp; go_at_call 89; rw [Z6.out]; (with_reducible refine (GA.out d (by omega) _).mono ?_); rintro e W6 ⟨v6, rfl, o6, k6⟩; have pu := HTD.out.own k6; have ks := Nat.le_trans HTD.out.low.size k6.size; dsimp only)
            | (refine wp_append_row _ (by rfl) (.tmp 153) (.tmp 162) 26 rfl w.heap.size wq.heap.size 4 i0 (.bool false) 1 Tryz.underlying26 hi hz0 hz1 hz2 rfl _ _ _ rfl pu _ _ _ rfl o6 (bls_one _) C3.out C4.out ks ?_; intro v7 W7 own7 hg7 hw7; have N2 := Lib.hid (HTD.out.put k6 own7 hg7 hw7); obtain ⟨a3, cap3, rfl⟩ := own_shape own7; clear own7 hg7 hw7))
           all_goals
            go_wp2_with fail
            go_roundw
           all_goals first | exact ⟨i + 1, hlt, by go_num, by rw [LS.out]; exact N2.out⟩ | (simp [intOf]; omega)
         ·have hie : i = np := by omega
          subst hie
          have i5 : decide ((i : Int) < (i : Int)) = false := decide_eq_false (by omega)
          have TK : Hid (rws1.take i = rws1) := Lib.hid (List.take_of_length_le (by rw [HNP.out]; exact Nat.le_refl _))
          rw [TK.out] at HT
          obtain ⟨O7, hO7⟩ : ∃ O, O6 ++ bitsOf ((lnm x iv none rws1).map (fun v => (Cd.gam, v))) = O := ⟨_, rfl⟩
          rw [TK.out, hO7]
          rw [hO7] at HT LY3
          clear hO7
          have c2 : wr.cell? ⟨w.heap.size, 2, none⟩ = some (.int .i64 (zt : Int)) := by rw [cell_of_row _ _ _ _ _ _ (HT.out.row PB.out)]; rfl
          have zw : IntKind.u64.wrap (zt : Int) = (zt : Int) := IntWalk.u64_in _ (by omega)
          have HLr : Hid (Ris rst1) := Lib.hid (by
           have h1 := (rws_ok iv L hRL).sub
           rw [HRW.out] at h1
           exact ⟨hRL.1.sublist h1, fun v hv => hRL.2 v (h1.subset hv)⟩)
          go_upto_region 34 with fail
          have H9 : Hid (LO w ((wr.heap.size, .cells #[.int .u8 3, .int .u64 (zt : Int)] 104 (0, 0)) :: ks2) O7 (.slice s5 O7.length d5) (wr.alloc (.cells #[.int .u8 3, .int .u64 (zt : Int)] 104))) := Lib.hid (LG.keep HT.out _ _)
          generalize hzb : wr.heap.size = zb at H9 ⊢
          generalize World.alloc wr _ = W9 at H9 ⊢
          clear hzb c2 zw HT HC1
          obtain ⟨B, hB⟩ : ∃ B, znm x none rst1 = B := ⟨_, rfl⟩
          have ZT := Lib.hid (fun k => znm_take x k none rst1)
          have HB := Lib.hid hB
          have CLZ : Hid (∀ k, (O7 ++ bitsOf ((znm x none (rst1.take k)).map (fun v => (Cd.zet zt, v)))).length ≤ 5243040) := Lib.hid (fun k => by
           have h1 := LL.out
           rw [LY3.out, List.length_append] at h1
           have h2 := bits_take_le ((znm x none rst1).map (fun v => (Cd.zet zt, v))) k
           rw [← List.map_take, ← znm_take] at h2
           rw [List.length_append]
           omega)
          clear hB
          go_wp2_with fail
          go_loopw [11, 20] (fun v11 v20 wr => ∃ i : Nat, i ≤ nr ∧ v20 = .int .i64 (i : Int) ∧ LO w ((zb, .cells #[.int .u8 3, .int .u64 (zt : Int)] 104 (0, 0)) :: ks2) (O7 ++ bitsOf ((znm x none (rst1.take i)).map (fun v => (Cd.zet zt, v)))) v11 wr)
           (fun _ v20 _ => nr - (intOf v20).toNat)
          case atStart => exact ⟨0, Nat.zero_le _, rfl, by rw [List.take_zero]; unfold znm; rw [List.map_nil, bitsOf_nil, List.append_nil]; exact H9.out⟩
          case round =>
           obtain ⟨j, hjn, rfl, hU⟩ := hrel
           rename World => wq
           obtain ⟨s9, d9, rfl⟩ := own_shape hU.2.1
           have HU := Lib.hid hU
           clear hU H9
           by_cases hjt : j < nr
           ·have hjr : j < rst1.length := by rw [HNR.out]; exact hjt
            obtain ⟨g, rfl, p0⟩ := HC2.out wq (fun p hp => (HU.out.2.2 p (List.mem_cons_of_mem _ hp)).1) j (.int .u32 (rst1[j] : Int)) (by unfold u32V; rw [List.getElem?_map, List.getElem?_eq_getElem hjr]; rfl)
            obtain ⟨v, hv⟩ : ∃ v, rst1[j] = v := ⟨_, rfl⟩
            have hvb : v < 65536 := by rw [← hv]; exact HLr.out.2 _ (List.getElem_mem hjr)
            rw [hv] at p0
            have TK : Hid (rst1.take (j + 1) = rst1.take j ++ [v]) := Lib.hid (by rw [List.take_succ_eq_append_getElem hjr, hv])
            obtain ⟨v0, hv0⟩ : ∃ v0, resN x (rst1.take j).getLast? v = v0 := ⟨_, rfl⟩
            have SN : Hid (znm x none (rst1.take (j + 1)) = znm x none (rst1.take j) ++ [v0]) := Lib.hid (by rw [TK.out, znm_snoc, ← hv0]; cases (rst1.take j).getLast? <;> rfl)
            have V0 := Lib.hid hv0
            have hv9 : v0 < 262144 := NKZ.out v0 (by
             have h1 : v0 ∈ znm x none (rst1.take (j + 1)) := by rw [SN.out]; exact List.mem_append_right _ (List.mem_cons_self ..)
             rw [znm_take] at h1
             exact List.mem_of_mem_take h1)
            obtain ⟨O8, hO8⟩ : ∃ O, O7 ++ bitsOf ((znm x none (rst1.take j)).map (fun v => (Cd.zet zt, v))) = O := ⟨_, rfl⟩
            rw [hO8] at HU ⊢
            have LS : Hid (O7 ++ bitsOf ((znm x none (rst1.take (j + 1))).map (fun v => (Cd.zet zt, v))) = O8 ++ cb (.zet zt) v0) := Lib.hid (by
             rw [SN.out, List.map_append, bitsOf_append, ← List.append_assoc, hO8]
             simp [bitsOf_cons, bitsOf_nil])
            have CL8 : O8.length + (cb (.zet zt) v0).length ≤ 5243040 := by
             have h1 := CLZ.out (j + 1)
             rw [LS.out, List.length_append] at h1
             exact h1
            have C3 : Hid (O8.length + (cb (.zet zt) v0).length ≤ maxLen) := Lib.hid (by simp only [maxLen]; omega)
            have C4 : Hid ((O8.length + (cb (.zet zt) v0).length) * 1 ≤ 140737488355328) := Lib.hid (by omega)
            have BZ := Lib.hid (fun W => dbits_zet zt v0 (by omega) (by omega) (by omega) W)
            clear hv0 hO8 CL8
            by_cases h0 : j = 0
            ·subst h0
             have ZG := Lib.hid (fun W => dzig_any v x hvb m5 W)
             have V1 : Hid (zig ((v : Int) - (x : Int)) = v0) := Lib.hid (by rw [← V0.out, List.take_zero]; rfl)
             rw [V1.out] at ZG
             have Z7 : Hid (IntKind.u64.wrap (v0 : Int) = (v0 : Int)) := Lib.hid (IntWalk.u64_in _ (by omega))
             clear hv
             go_upto_region 38 with fail
             have HTD : Hid (LO w ((zb, .cells #[.int .u8 3, .int .u64 (zt : Int)] 104 (0, 0)) :: ks2) O8 (.slice s9 O8.length d9) wq.drew) := Lib.hid (LG.drew HU.out)
             have r9 := HTD.out.row (List.mem_cons_self ..)
             have c0 : wq.drew.cell? ⟨zb, 0, none⟩ = some (.int .u8 3) := by rw [cell_of_row _ _ _ _ _ _ r9]; rfl
             have c1 : wq.drew.cell? ⟨zb, 1, none⟩ = some (.int .u64 (zt : Int)) := by rw [cell_of_row _ _ _ _ _ _ r9]; rfl
             clear r9
             --R38
             go_region_law (first
              | (go_simp; go_at_call 94; (with_reducible refine (ZG.out _).mono ?_); rintro e W6 ⟨rfl, rfl⟩; dsimp only)
              | (go_simp; go_at_call 90; rw [Z7.out]; (with_reducible refine (BZ.out _).mono ?_); rintro e W6 ⟨v6, rfl, o6, k6⟩; have pu := HTD.out.own k6; have ks := Nat.le_trans HTD.out.low.size k6.size; dsimp only)
              | (refine wp_append_row _ (by rfl) (.tmp 176) (.tmp 184) 26 rfl w.heap.size wq.heap.size 4 i0 (.bool false) 1 Tryz.underlying26 hi hz0 hz1 hz2 rfl _ _ _ rfl pu _ _ _ rfl o6 (bls_one _) C3.out C4.out ks ?_; intro v7 W7 own7 hg7 hw7; have N2 := Lib.hid (HTD.out.put k6 own7 hg7 hw7); obtain ⟨a3, cap3, rfl⟩ := own_shape own7; clear own7 hg7 hw7))
             all_goals
              go_wp2_with fail
              go_roundw
             all_goals first | exact ⟨0 + 1, hjt, by go_num, by rw [LS.out]; exact N2.out⟩ | (simp [intOf]; omega)
            ·obtain ⟨q, hq⟩ : ∃ q, q + 1 = j := ⟨j - 1, by omega⟩
             have hqr : q < rst1.length := by rw [HNR.out]; omega
             obtain ⟨g2, eg, q0⟩ := HC2.out wq (fun p hp => (HU.out.2.2 p (List.mem_cons_of_mem _ hp)).1) q (.int .u32 (rst1[q] : Int)) (by unfold u32V; rw [List.getElem?_map, List.getElem?_eq_getElem hqr]; rfl)
             obtain rfl : g = g2 := by injection eg with eg; injection eg with eg
             have huv : rst1[q] < v := by
              have h2 := List.pairwise_iff_getElem.1 HLr.out.1 q j hqr hjr (by omega)
              omega
             have V1 := V0.out
             have LD : (rst1.take j).getLast? = some rst1[q] := by rw [← hq, List.take_succ_eq_append_getElem hqr, List.getLast?_concat]
             rw [LD] at V1
             change v - _ - 1 = v0 at V1
             obtain ⟨u, hu⟩ : ∃ u, rst1[q] = u := ⟨_, rfl⟩
             rw [hu] at q0 huv V1
             have a1 : IntKind.i64.wrap ((j : Int) - 1) = (q : Int) := by rw [IntWalk.i64_in _ (by omega)]; omega
             have a2 : (q : Int) < (nr : Int) := by omega
             have a3 : (0 : Int) ≤ (q : Int) := Int.natCast_nonneg _
             have hib : ((j : Int) == 0) = false := beq_eq_false_iff_ne.2 (by omega)
             have Z8 := Lib.hid (rest_wrap v u v0 hvb huv V1)
             clear hu LD V1 huv eg hv hvb
             go_upto_region 39 with fail
             have HTD : Hid (LO w ((zb, .cells #[.int .u8 3, .int .u64 (zt : Int)] 104 (0, 0)) :: ks2) O8 (.slice s9 O8.length d9) wq.drew) := Lib.hid (LG.drew HU.out)
             have r9 := HTD.out.row (List.mem_cons_self ..)
             have c0 : wq.drew.cell? ⟨zb, 0, none⟩ = some (.int .u8 3) := by rw [cell_of_row _ _ _ _ _ _ r9]; rfl
             have c1 : wq.drew.cell? ⟨zb, 1, none⟩ = some (.int .u64 (zt : Int)) := by rw [cell_of_row _ _ _ _ _ _ r9]; rfl
             clear r9
             --R39
             go_region_law (first
              | (go_simp; go_at_call 90; rw [Z8.out]; (with_reducible refine (BZ.out _).mono ?_); rintro e W6 ⟨v6, rfl, o6, k6⟩; have pu := HTD.out.own k6; have ks := Nat.le_trans HTD.out.low.size k6.size; dsimp only)
              | (refine wp_append_row _ (by rfl) (.tmp 186) (.tmp 200) 26 rfl w.heap.size wq.heap.size 4 i0 (.bool false) 1 Tryz.underlying26 hi hz0 hz1 hz2 rfl _ _ _ rfl pu _ _ _ rfl o6 (bls_one _) C3.out C4.out ks ?_; intro v7 W7 own7 hg7 hw7; have N2 := Lib.hid (HTD.out.put k6 own7 hg7 hw7); obtain ⟨a3, cap3, rfl⟩ := own_shape own7; clear own7 hg7 hw7))
             all_goals
              go_wp2_with fail
              go_roundw
             all_goals first | exact ⟨j + 1, hjt, by go_num, by rw [LS.out]; exact N2.out⟩ | (simp [intOf]; omega)
           ·have hje : j = nr := by omega
            subst hje
            have i5 : decide ((j : Int) < (j : Int)) = false := decide_eq_false (by omega)
            have TK : Hid (rst1.take j = rst1) := Lib.hid (List.take_of_length_le (by rw [HNR.out]; exact Nat.le_refl _))
            have FIN : Hid (lay x succ ref r p = O7 ++ bitsOf ((znm x none (rst1.take j)).map (fun v => (Cd.zet zt, v)))) := Lib.hid (by rw [TK.out, LY3.out])
            go_wp2_with fail
            go_ret
            rw [FIN.out]
            exact HU.out.post
end Go.Proofs.YtflnpcgnenhogaaGreatDoor.ls
namespace Go.Proofs.YtflnpcgnenhogaaGreatDoor.ls
open Go.RowKit Go.Proofs.YtflnpcgnenhogaaGreatDoor.own Go.Proofs.YtflnpcgnenhogaaGreatDoor.bit

/-- integers in memory that are only read -/
def IV (w : World) (a : Option Addr) (l : List Nat) : Prop :=
 l.length ≤ 4611686018427387903 ∧ ∀ i (h : i < l.length), ∃ g o, a = some ⟨g, o, none⟩ ∧ g < w.heap.size ∧ w.cell? ⟨g, o + i, none⟩ = some (.int .i64 (l[i] : Int))
theorem IV.below {w w' : World} {a : Option Addr} {l : List Nat} (h : IV w a l) (k : Below w.heap.size w w') : IV w' a l :=
 ⟨h.1, fun i hi => by
  obtain ⟨g, o, h1, h2, h3⟩ := h.2 i hi
  exact ⟨g, o, h1, Nat.lt_of_lt_of_le h2 k.size, (k.cell (p := ⟨g, o + i, none⟩) h2).trans h3⟩⟩
/-- the document's packer, as it is read -/
structure DPv (b : Bp) (T : List Tk) (qb : Nat) (aL : Option Addr) (dL : Nat) (aC : Option Addr) (dC : Nat) (vB : Value) (E : Nat) (W : World) : Prop where
 lt : qb < W.heap.size
 p0 : W.cell? ⟨qb, 0, none⟩ = some (.int .i64 (b.p.win : Int))
 p1 : W.cell? ⟨qb, 1, none⟩ = some (.int .i64 (b.depth : Int))
 p2 : W.cell? ⟨qb, 2, none⟩ = some (.int .i64 (b.p.itv : Int))
 p3 : W.cell? ⟨qb, 3, none⟩ = some (.int .i64 (b.p.zet : Int))
 p4 : W.cell? ⟨qb, 4, none⟩ = some (.int .i64 (b.cap : Int))
 cL : W.cell? ⟨qb, 5, none⟩ = some (.slice aL T.length dL)
 cC : W.cell? ⟨qb, 6, none⟩ = some (.slice aC T.length dC)
 cB : W.cell? ⟨qb, 7, none⟩ = some vB
 cE : W.cell? ⟨qb, 9, none⟩ = some (.int .i64 (E : Int))
 l : LLs W aL (T.map (·.1))
 c : IV W aC (T.map (·.2))
theorem DPv.next {b : Bp} {T : List Tk} {qb : Nat} {aL : Option Addr} {dL : Nat} {aC : Option Addr} {dC : Nat} {vB : Value} {E : Nat} {W W' : World} (h : DPv b T qb aL dL aC dC vB E W) (k : Below W.heap.size W W') : DPv b T qb aL dL aC dC vB E W' :=
 ⟨Nat.lt_of_lt_of_le h.lt k.size, (k.cell h.lt).trans h.p0, (k.cell h.lt).trans h.p1, (k.cell h.lt).trans h.p2, (k.cell h.lt).trans h.p3, (k.cell h.lt).trans h.p4, (k.cell h.lt).trans h.cL, (k.cell h.lt).trans h.cC, (k.cell h.lt).trans h.cB, (k.cell h.lt).trans h.cE, h.l.below k, h.c.below k⟩
/-- behind the last reference that may be nothing is picked -/
theorem pick_stop (b : Bp) (T : List Tk) (succ : List Nat) (r : Nat) (h : ¬ (r < T.length ∧ 0 < succ.length ∧ succ.length ≤ b.cap)) : ∀ k, pickN b T succ (r + k) = pickN b T succ r
 | 0 => rfl
 | k + 1 => by
  rw [← Nat.add_assoc, pickN_succ, pick_stop b T succ r h k]
  unfold stepB
  have e : backB b T (r + k + 1) succ.length = none := by
   unfold backB
   rw [if_neg]
   rintro ⟨⟨_, h1, _⟩, h2⟩
   unfold tkMay at h2
   exact h ⟨by omega, h2.2.2.1, h2.2.2.2.1⟩
  rw [e]
theorem tkOf_at {T : List Tk} {r : Nat} (h0 : 0 < r) (h : r ≤ T.length) : tkOf T r = T[T.length - r]'(by omega) := by
 unfold tkOf
 rw [List.getD_eq_getElem?_getD, List.getElem?_eq_getElem (by omega)]
 rfl
set_option maxRecDepth 100000 in
set_option maxHeartbeats 6400000 in
theorem dbest_any {b : Bp} {T : List Tk} {qb : Nat} {aL : Option Addr} {dL : Nat} {aC : Option Addr} {dC : Nat} {vB : Value} {E : Nat} (W : World) (hv : DPv b T qb aL dL aC dC vB E W) (_hdL : T.length ≤ dL) (_hdC : T.length ≤ dC) (hb : b.p.ok) (hx : T.length < 65536) (hT : TOk T) (a : Option Addr) (succ : List Nat) (cap : Nat) (hc : succ.length ≤ cap) (hs : Ris succ) (hA : LV W a succ) :
  Calls Tryz.prog 70 #[.pointer (some ⟨qb, 0, none⟩), .slice a succ.length cap] W fun e w' => e = .returned (.tuple #[.int .i64 ((pickB b T succ).2.1 : Int), .int .i64 ((pickB b T succ).1 : Int)]) ∧ Below W.heap.size W w' := by
 have hs9 := hs.len
 have hw16 : b.p.win ≤ 16 := hb.1
 have HV := Lib.hid (fun W' (k : Below W.heap.size W W') => hv.next k)
 have HT := Lib.hid hT
 have BL := Lib.hid (fun W' => dblist_any (b.p.win : Int) (b.depth : Int) (b.p.itv : Int) (b.p.zet : Int) (b.cap : Int) W')
 have LD := Lib.hid (fun W' (k : Below W.heap.size W W') (o : Option Addr) (other : List Nat) (co r : Nat) (ho : other.length ≤ co) (hm : MayN T.length succ other r b.p) (hB : LV W' o other) => dlaid_any b.p T.length W' a succ cap o other co r hc ho hm (hA.below k) hB)
 have PM := Lib.hid (plain_may (b := b) hb hx hs)
 have PK := Lib.hid (fun r => pickN_ok b T succ r)
 have PS := Lib.hid (fun r k (h : ¬ (r < T.length ∧ 0 < succ.length ∧ succ.length ≤ b.cap)) => pick_stop b T succ r h k)
 have LL := Lib.hid (fun (other : List Nat) r (hm : MayN T.length succ other r b.p) => lay_len hm)
 have HS := Lib.hid hs
 obtain ⟨m, hm⟩ : ∃ z, succ.length = z := ⟨_, rfl⟩
 have HM := Lib.hid hm
 obtain ⟨nt, hnt⟩ : ∃ z, T.length = z := ⟨_, rfl⟩
 have HNT := Lib.hid hnt
 have HB := Lib.hid hb
 rw [hm] at hc hs9 LD PS ⊢
 rw [hnt] at hx LD PS PM LL
 have VC : Hid (∀ W', Below W.heap.size W W' → W'.cell? ⟨qb, 0, none⟩ = some (.int .i64 (b.p.win : Int)) ∧ W'.cell? ⟨qb, 1, none⟩ = some (.int .i64 (b.depth : Int)) ∧ W'.cell? ⟨qb, 2, none⟩ = some (.int .i64 (b.p.itv : Int)) ∧ W'.cell? ⟨qb, 3, none⟩ = some (.int .i64 (b.p.zet : Int)) ∧ W'.cell? ⟨qb, 4, none⟩ = some (.int .i64 (b.cap : Int)) ∧ W'.cell? ⟨qb, 5, none⟩ = some (.slice aL nt dL) ∧ W'.cell? ⟨qb, 6, none⟩ = some (.slice aC nt dC)) := Lib.hid (fun W' k => by
  have h := hv.next k
  exact ⟨h.p0, h.p1, h.p2, h.p3, h.p4, by rw [← hnt]; exact h.cL, by rw [← hnt]; exact h.cC⟩)
 unfold parV at BL LD
 unfold bpV at BL
 clear hv hT hs hA hm hnt hb
 have K0 := Below.refl W.heap.size W
 obtain ⟨p0, p1, p2, p3, p4, p5, p6⟩ := VC.out _ K0
 go_enter Tryz.func70, Tryz.ntmps70
 go_wp2_with fail
 with_reducible refine (BL.out _).mono ?_
 rintro e w1 ⟨rfl, k1⟩
 have K1 := Lib.hid k1
 have LA : Hid (Calls Tryz.prog 55 #[.int .i64 (nt : Int), .slice a m cap, .slice none 0 0, .int .i64 0, .agg #[.int .i64 (b.p.win : Int), .int .i64 (b.p.itv : Int), .int .i64 (b.p.zet : Int)]] w1 (RowPost (lay nt succ [] 0 b.p) w1)) := Lib.hid (LD.out w1 k1 none [] 0 0 (Nat.le_refl _) PM.out LV.nil)
 clear p0 p1 p2 p3 p4 p5 p6 k1 K0
 go_wp2_with fail
 with_reducible refine LA.out.mono ?_
 rintro e w2 ⟨v2, rfl, own2, k2⟩
 obtain ⟨s2, d2, rfl⟩ := own_shape own2
 have K2 := Lib.hid (K1.out.trans (k2.mono K1.out.size))
 have P0 : Hid ((lay nt succ [] 0 b.p).length = (pickN b T succ 0).1) := Lib.hid (by rw [← HNT.out]; rfl)
 obtain ⟨z0, hz0⟩ : ∃ z, (lay nt succ [] 0 b.p).length = z := ⟨_, rfl⟩
 have hz9 := LL.out [] 0 PM.out
 rw [hz0] at P0 hz9 ⊢
 clear own2 k2 LA hz0
 go_wp2_with fail
 go_loopw [7, 8, 9] (fun v7 v8 v9 wr => ∃ r r1 : Nat, r + 1 = r1 ∧ v9 = .int .i64 (r1 : Int) ∧ r ≤ b.p.win ∧ v7 = .int .i64 ((pickN b T succ r).1 : Int) ∧ v8 = .int .i64 ((pickN b T succ r).2.1 : Int) ∧ Below W.heap.size W wr) (fun _ _ v9 _ => 20 - (intOf v9).toNat)
 case atStart => exact ⟨0, 1, rfl, rfl, Nat.zero_le _, by rw [P0.out], rfl, K2.out⟩
 case round =>
  obtain ⟨r, r1, hr1, rfl, hr, rfl, rfl, hK⟩ := hrel
  rename World => wr
  have KR := Lib.hid hK
  obtain ⟨p0, p1, p2, p3, p4, p5, p6⟩ := VC.out _ hK
  obtain ⟨q, hq⟩ : ∃ q, pickN b T succ r = q := ⟨_, rfl⟩
  have HQ := Lib.hid hq
  have PQ := Lib.hid (PK.out r)
  rw [hq] at PQ ⊢
  have EX : Hid (¬ (r < b.p.win ∧ r < nt ∧ 0 < m ∧ m ≤ b.cap) → pickB b T succ = q) := Lib.hid (fun hno => by
   rw [← hq]
   unfold pickB
   by_cases h1 : r < b.p.win
   ·have h := PS.out r (b.p.win - r) (fun h => hno ⟨h1, h⟩)
    rw [show r + (b.p.win - r) = b.p.win by omega] at h
    exact h
   ·rw [show b.p.win = r by omega])
  obtain ⟨wn, hwn⟩ : ∃ z, b.p.win = z := ⟨_, rfl⟩
  obtain ⟨cp, hcp⟩ : ∃ z, b.cap = z := ⟨_, rfl⟩
  have HW := Lib.hid (And.intro hwn hcp)
  have hw16b : wn ≤ 16 := by omega
  rw [hwn] at p0 hr EX
  rw [hcp] at p4 EX
  obtain ⟨lq, rq, tq⟩ := q
  dsimp only
  have HR1 := Lib.hid hr1
  clear hq hK hwn hcp
  by_cases c1 : r < wn
  ·have i1 : decide ((r1 : Int) ≤ (wn : Int)) = true := decide_eq_true (by omega)
   have n1 : decide (r1 ≤ wn) = true := decide_eq_true (by omega)
   by_cases c2 : r < nt
   ·have i2 : decide ((r1 : Int) ≤ (nt : Int)) = true := decide_eq_true (by omega)
    have n2 : decide (r1 ≤ nt) = true := decide_eq_true (by omega)
    by_cases c3 : 0 < m
    ·have i3 : decide ((0 : Int) < (m : Int)) = true := decide_eq_true (by omega)
     have n3 : decide (0 < m) = true := decide_eq_true (by omega)
     by_cases c4 : m ≤ cp
     ·have i4 : decide ((m : Int) ≤ (cp : Int)) = true := decide_eq_true (by omega)
      have n4 : decide (m ≤ cp) = true := decide_eq_true (by omega)
      --Y
      obtain ⟨j, hj⟩ : ∃ z, nt - r1 = z := ⟨_, rfl⟩
      have hjT : j < T.length := by rw [HNT.out]; omega
      have w1 : IntKind.i64.wrap ((nt : Int) - (r1 : Int)) = (j : Int) := by rw [IntWalk.i64_in _ (by omega)]; omega
      have hjn : (j : Int) < (nt : Int) := by omega
      have hj0 : (0 : Int) ≤ (j : Int) := Int.natCast_nonneg _
      have ET : Hid (tkOf T r1 = T[j]) := Lib.hid (by
       rw [tkOf_at (by omega) (by rw [HNT.out]; omega)]
       congr 1
       rw [HNT.out]
       exact hj)
      have hv := HV.out wr KR.out
      obtain ⟨g, o, s, d, rfl, hg, hcl, hd, hLV⟩ := hv.l.2 j (by rw [List.length_map]; exact hjT)
      obtain ⟨g2, o2, rfl, hg2, hcc⟩ := hv.c.2 j (by rw [List.length_map]; exact hjT)
      rw [List.getElem_map] at hcl hd hLV hcc
      have HTj := HT.out _ (List.getElem_mem hjT)
      obtain ⟨t, ht⟩ : ∃ t, T[j] = t := ⟨_, rfl⟩
      rw [ht] at hcl hd hLV hcc ET HTj
      obtain ⟨tl, tc⟩ := t
      dsimp only at hcl hd hLV hcc HTj
      have htn9 := HTj.len
      have HLV := Lib.hid hLV
      have HTJ := Lib.hid HTj
      obtain ⟨tn, htn⟩ : ∃ z, tl.length = z := ⟨_, rfl⟩
      have HTN := Lib.hid htn
      rw [htn] at hcl hd htn9
      have HBK : Hid (backB b T r1 m = if 0 < tn ∧ tn ≤ cp ∧ tc < b.depth then some (tl, tc) else none) := Lib.hid (by
       have hnt := HNT.out
       have hwn := HW.out.1
       have hcp := HW.out.2
       have htn := HTN.out
       unfold backB
       rw [ET.out]
       by_cases h : 0 < tn ∧ tn ≤ cp ∧ tc < b.depth
       ·rw [if_pos h]
        exact if_pos ⟨⟨by omega, by omega, by omega⟩, (⟨by dsimp only; omega, by dsimp only; omega, c3, by omega, h.2.2⟩ : tkMay b (tl, tc) m)⟩
       ·rw [if_neg h]
        refine if_neg (fun k => h ?_)
        have k2 : tkMay b (tl, tc) m := k.2
        unfold tkMay at k2
        dsimp only at k2
        exact ⟨by omega, by omega, k2.2.2.2.2⟩)
      have ST : Hid (pickN b T succ r1 = match (if 0 < tn ∧ tn ≤ cp ∧ tc < b.depth then some (tl, tc) else none) with | none => (lq, rq, tq) | some t => if (lay nt succ t.1 r1 b.p).length < lq then ((lay nt succ t.1 r1 b.p).length, r1, t) else (lq, rq, tq)) := Lib.hid (by
       rw [← HR1.out, pickN_succ, HQ.out]
       unfold stepB
       rw [HM.out, HR1.out, HBK.out, HNT.out]
       rfl)
      have dq : lq ≤ 5243040 := by
       have h1 := PQ.out.le
       have h2 := LL.out [] 0 PM.out
       dsimp only at h1
       rw [HNT.out] at h1
       omega
      clear hv ht htn HTj hLV hj hg hg2
      go_upto_region 8 with fail
      obtain ⟨dp, hdp⟩ : ∃ z, b.depth = z := ⟨_, rfl⟩
      rw [hdp] at p1 ST
      have HDP := Lib.hid hdp
      clear hdp HBK
      by_cases e1 : tn = 0
      ·subst e1
       have ST2 : Hid (pickN b T succ r1 = (lq, rq, tq)) := Lib.hid (by rw [ST.out, if_neg (fun h => absurd h.1 (Nat.lt_irrefl 0))])
       clear ST
       go_quiet (fail)
       go_wp2_with fail
       go_roundw
       case rel => exact ⟨r1, r1 + 1, rfl, by go_num, by have := HW.out.1; omega, by rw [ST2.out], by rw [ST2.out], KR.out.trans ⟨rfl, rfl, rfl, Nat.le_refl _, fun _ _ => rfl⟩⟩
       case measure => simp [intOf]; omega
      ·have j1 : ((tn : Int) == 0) = false := by simp; omega
       by_cases e2 : tn ≤ cp
       ·have j2 : decide ((cp : Int) < (tn : Int)) = false := decide_eq_false (by omega)
        have m2 : decide (cp < tn) = false := decide_eq_false (by omega)
        by_cases e3 : tc < dp
        ·have j3 : decide ((dp : Int) ≤ (tc : Int)) = false := decide_eq_false (by omega)
         have m3 : decide (dp ≤ tc) = false := decide_eq_false (by omega)
         go_quiet (fail)
         have KQ : Hid (Below W.heap.size W (wr.drewN nq)) := Lib.hid (KR.out.trans ⟨rfl, rfl, rfl, Nat.le_refl _, fun _ _ => rfl⟩)
         have BL2 : Hid (∀ W', Calls Tryz.prog 64 #[.agg #[.int .i64 (wn : Int), .int .i64 (dp : Int), .int .i64 (b.p.itv : Int), .int .i64 (b.p.zet : Int), .int .i64 (cp : Int)]] W' fun e w' => e = .returned (.agg #[.int .i64 (wn : Int), .int .i64 (b.p.itv : Int), .int .i64 (b.p.zet : Int)]) ∧ Below W'.heap.size W' w') := Lib.hid (by
          have h := BL.out
          rw [HW.out.1, HW.out.2, HDP.out] at h
          exact h)
         have hmy : MayN nt succ tl r1 b.p := ⟨HB.out, hx, HS.out, HTJ.out, by have := HW.out.1; omega, .inl (by omega)⟩
         have LZ := LL.out tl r1 hmy
         have LD2 : Hid (∀ W', Below W.heap.size W W' → LV W' s tl → Calls Tryz.prog 55 #[.int .i64 (nt : Int), .slice a m cap, .slice s tn d, .int .i64 (r1 : Int), .agg #[.int .i64 (wn : Int), .int .i64 (b.p.itv : Int), .int .i64 (b.p.zet : Int)]] W' (RowPost (lay nt succ tl r1 b.p) W')) := Lib.hid (fun W' k hl => by
          have h := LD.out W' k s tl d r1 (by rw [HTN.out]; exact hd) hmy hl
          rw [HTN.out, HW.out.1] at h
          exact h)
         obtain ⟨z, hz⟩ : ∃ z, (lay nt succ tl r1 b.p).length = z := ⟨_, rfl⟩
         rw [hz] at LZ
         have HZ := Lib.hid hz
         rw [if_pos ⟨by omega, e2, e3⟩] at ST
         have LVQ : Hid (LV (wr.drewN nq) s tl) := Lib.hid (HLV.out.below ⟨rfl, rfl, rfl, Nat.le_refl _, fun _ _ => rfl⟩)
         have p0 : (wr.drewN nq).cell? ⟨qb, 0, none⟩ = some (.int .i64 (wn : Int)) := p0
         have p1 : (wr.drewN nq).cell? ⟨qb, 1, none⟩ = some (.int .i64 (dp : Int)) := p1
         have p2 : (wr.drewN nq).cell? ⟨qb, 2, none⟩ = some (.int .i64 (b.p.itv : Int)) := p2
         have p3 : (wr.drewN nq).cell? ⟨qb, 3, none⟩ = some (.int .i64 (b.p.zet : Int)) := p3
         have p4 : (wr.drewN nq).cell? ⟨qb, 4, none⟩ = some (.int .i64 (cp : Int)) := p4
         generalize wr.drewN nq = wq at KQ LVQ p0 p1 p2 p3 p4 ⊢
         clear hmy hz hcl hcc p5 p6
         go_wp2_with fail
         with_reducible refine (BL2.out _).mono ?_
         rintro e w4 ⟨rfl, k4⟩
         have K4 := Lib.hid (KQ.out.trans (k4.mono KQ.out.size))
         have LA2 := Lib.hid (LD2.out w4 K4.out (LVQ.out.below k4))
         clear k4 p0 p1 p2 p3 p4
         go_wp2_with fail
         with_reducible refine LA2.out.mono ?_
         rintro e w5 ⟨v5, rfl, own5, k5⟩
         rw [HZ.out] at own5
         obtain ⟨s5, d5, rfl⟩ := own_shape own5
         have K5 := Lib.hid (K4.out.trans (k5.mono K4.out.size))
         clear own5 k5 LA2
         by_cases hzl : z < lq
         ·have j5 : decide ((z : Int) < (lq : Int)) = true := decide_eq_true (by omega)
          have j5n : decide (z < lq) = true := decide_eq_true hzl
          have ST2 : Hid (pickN b T succ r1 = (z, r1, (tl, tc))) := Lib.hid (by
           rw [ST.out]
           show (if (lay nt succ tl r1 b.p).length < lq then _ else _) = _
           rw [HZ.out, if_pos hzl])
          clear ST
          go_wp2_with fail
          go_roundw
          case rel => exact ⟨r1, r1 + 1, rfl, by go_num, by have := HW.out.1; omega, by rw [ST2.out], by rw [ST2.out], K5.out⟩
          case measure => simp [intOf]; omega
         ·have j5 : decide ((z : Int) < (lq : Int)) = false := decide_eq_false (by omega)
          have j5n : decide (z < lq) = false := decide_eq_false hzl
          have ST2 : Hid (pickN b T succ r1 = (lq, rq, tq)) := Lib.hid (by
           rw [ST.out]
           show (if (lay nt succ tl r1 b.p).length < lq then _ else _) = _
           rw [HZ.out, if_neg hzl])
          clear ST
          go_wp2_with fail
          go_roundw
          case rel => exact ⟨r1, r1 + 1, rfl, by go_num, by have := HW.out.1; omega, by rw [ST2.out], by rw [ST2.out], K5.out⟩
          case measure => simp [intOf]; omega
        ·have j3 : decide ((dp : Int) ≤ (tc : Int)) = true := decide_eq_true (by omega)
         have m3 : decide (dp ≤ tc) = true := decide_eq_true (by omega)
         have ST2 : Hid (pickN b T succ r1 = (lq, rq, tq)) := Lib.hid (by rw [ST.out, if_neg (fun h => e3 h.2.2)])
         clear ST
         go_quiet (fail)
         go_wp2_with fail
         go_roundw
         case rel => exact ⟨r1, r1 + 1, rfl, by go_num, by have := HW.out.1; omega, by rw [ST2.out], by rw [ST2.out], KR.out.trans ⟨rfl, rfl, rfl, Nat.le_refl _, fun _ _ => rfl⟩⟩
         case measure => simp [intOf]; omega
       ·have j2 : decide ((cp : Int) < (tn : Int)) = true := decide_eq_true (by omega)
        have m2 : decide (cp < tn) = true := decide_eq_true (by omega)
        have ST2 : Hid (pickN b T succ r1 = (lq, rq, tq)) := Lib.hid (by rw [ST.out, if_neg (fun h => e2 h.2.1)])
        clear ST
        go_quiet (fail)
        go_wp2_with fail
        go_roundw
        case rel => exact ⟨r1, r1 + 1, rfl, by go_num, by have := HW.out.1; omega, by rw [ST2.out], by rw [ST2.out], KR.out.trans ⟨rfl, rfl, rfl, Nat.le_refl _, fun _ _ => rfl⟩⟩
        case measure => simp [intOf]; omega
     ·have i4 : decide ((m : Int) ≤ (cp : Int)) = false := decide_eq_false (by omega)
      have n4 : decide (m ≤ cp) = false := decide_eq_false (by omega)
      have e := Lib.hid (EX.out (fun h => c4 h.2.2.2))
      go_wp2_with fail
      exact bodyPost_ret (v := .tuple #[.int .i64 (rq : Int), .int .i64 (lq : Int)]) (by simp [results, Tryz.results70, go_sem]) rfl ⟨by rw [e.out], KR.out⟩
    ·have i3 : decide ((0 : Int) < (m : Int)) = false := decide_eq_false (by omega)
     have n3 : decide (0 < m) = false := decide_eq_false (by omega)
     have e := Lib.hid (EX.out (fun h => c3 h.2.2.1))
     go_wp2_with fail
     exact bodyPost_ret (v := .tuple #[.int .i64 (rq : Int), .int .i64 (lq : Int)]) (by simp [results, Tryz.results70, go_sem]) rfl ⟨by rw [e.out], KR.out⟩
   ·have i2 : decide ((r1 : Int) ≤ (nt : Int)) = false := decide_eq_false (by omega)
    have n2 : decide (r1 ≤ nt) = false := decide_eq_false (by omega)
    have e := Lib.hid (EX.out (fun h => c2 h.2.1))
    go_wp2_with fail
    exact bodyPost_ret (v := .tuple #[.int .i64 (rq : Int), .int .i64 (lq : Int)]) (by simp [results, Tryz.results70, go_sem]) rfl ⟨by rw [e.out], KR.out⟩
  ·have i1 : decide ((r1 : Int) ≤ (wn : Int)) = false := decide_eq_false (by omega)
   have n1 : decide (r1 ≤ wn) = false := decide_eq_false (by omega)
   have e := Lib.hid (EX.out (fun h => c1 h.1))
   go_wp2_with fail
   exact bodyPost_ret (v := .tuple #[.int .i64 (rq : Int), .int .i64 (lq : Int)]) (by simp [results, Tryz.results70, go_sem]) rfl ⟨by rw [e.out], KR.out⟩
end Go.Proofs.YtflnpcgnenhogaaGreatDoor.ls
namespace Go.Proofs.YtflnpcgnenhogaaGreatDoor.ls
open Go.RowKit Go.Proofs.YtflnpcgnenhogaaGreatDoor.own Go.Proofs.YtflnpcgnenhogaaGreatDoor.bit

/-- a packer in memory, its writer, its lists, rows beside -/
def KS (w : World) (b : Bp) (T : List Tk) (wb E D : Nat) (l : Bits) (rd : Option (Nat × ByteArray × Nat)) (kb : Nat) (ls ks : List (Nat × Obj)) (W : World) : Prop :=
 ∃ row, FS w (some (wb, l)) rd ((kb, .cells row 129 (0, 0)) :: (ls ++ ks)) W ∧ (∀ p ∈ ls ++ ks, p.1 ≠ kb) ∧ PackRow b T wb E D row ls
/-- a list that a call made stands in a block of its own, or in none -/
theorem own_stands {W : World} {base : Nat} {v : Value} {l : List Nat} (h : W.ownsRow base 77 1 v l.length (u32V l)) (hl : l.length ≤ 65536) (hb : ∀ x ∈ l, x < 4294967296) : ∃ (kv : List (Nat × Obj)) (s : Option Addr) (d : Nat), v = .slice s l.length d ∧ l.length ≤ d ∧ Stands kv s l ∧ ∀ p ∈ kv, base ≤ p.1 ∧ W.heap[p.1]? = some p.2 := by
 rcases h.2 with ⟨rfl, h0⟩ | ⟨g, cap, cur, rfl, hbg, hg, hn, _, _, htake⟩
 ·have hl0 : l = [] := List.eq_nil_of_length_eq_zero h0
  subst hl0
  exact ⟨[], none, 0, rfl, Nat.le_refl _, fun W _ => LV.nil, fun p hp => by cases hp⟩
 ·refine ⟨[(g, .cells cur 77 (0, 0))], _, cap, rfl, hn, fun W' hW' => ⟨by omega, fun i hi => ?_⟩, fun p hp => by rw [List.mem_singleton.1 hp]; exact ⟨hbg, hg⟩⟩
  have hr := hW' _ (List.mem_singleton.2 rfl)
  refine ⟨g, 0, rfl, lt_of_block hr, ?_, hb _ (List.getElem_mem hi)⟩
  have hx : (u32V l)[i]? = some (.int .u32 (l[i] : Int)) := by unfold u32V; rw [List.getElem?_map, List.getElem?_eq_getElem hi]; rfl
  rw [← htake, List.getElem?_take_of_lt (by omega)] at hx
  rw [Nat.zero_add, cell_of_row _ _ _ _ _ _ hr, ← Array.getElem?_toList]
  exact hx
/-- append of a list that is only read, inside a drawn region -/
theorem wp_append_lv {P : Program} (w : World) {o : Oper} {a : Act} {K : Act → World → Prop} {Q : Exit → Act → World → Prop} {c : Bool} {E : Prop} (hc : c = true) (s x : Operand) (t : TypeId)
  (ho : o.op = .call { callee := .builtin .append, args := #[s, x], argTypes := #[t, t] })
  (base : Nat) (e : TypeId) (i : TypeInfo) (z : Value) (bytes : Nat) (ht : P.underlying t = some (.slice e)) (hi : P.info? e = some i) (hz : i.zero = some z)
  (hsize : i.size = 1) (hby : i.bytes = bytes) (hzs : z.cells.size = 1)
  (v : Value) (n : Nat) (xs : List Value) (hs : a.eval s = v) (hown : w.ownsRow base e 1 v n xs) (ao : Option Addr) (m cc : Nat) (l : List Nat) (hx : a.eval x = .slice ao m cc) (hm : l.length = m) (hLV : LV w ao l)
  (h63 : n + m ≤ maxLen) (hbytes : (n + m) * bytes ≤ 140737488355328) (hbase : base ≤ w.heap.size)
  (h : ∀ v' w', w'.ownsRow base e 1 v' (n + m) (xs ++ u32V l) → w.grownBy w' v.ownBlock → (v'.ownBlock = v.ownBlock ∨ v'.ownBlock = some w.heap.size) → K (a.put o.dst v') w') :
  if c = true then Oper.wp P o a w K Q else E := by
 rw [if_pos hc]
 by_cases h0 : 0 < m
 ·obtain ⟨g, of, rfl⟩ := hLV.addr (by omega)
  have hcl := hLV.cells m
  rw [List.take_of_length_le (by omega)] at hcl
  have hl : (u32V l).length = m * 1 := by rw [u32V, List.length_map, hm, Nat.mul_one]
  obtain ⟨v', w', hr, h2, h3, _⟩ := run_append_own (P := P) w base t o.type e i z 1 bytes ht hi hz hsize hby hzs (by decide) v n xs hown ⟨g, of, none⟩ m cc (u32V l) hl hcl (u32_one l) h63 hbytes hbase
  have h4 := append_where w base t o.type e i z 1 bytes ht hi hz hsize hby v n xs hown ⟨g, of, none⟩ m cc (u32V l) hl hcl (u32_one l) h63 hbytes h0 hr
  unfold Oper.wp execOp
  simp only [ho, resolve, invoke, builtin, Sem.run_bind, Sem.run_pure, Result.andThen_ok, List.map_toArray, List.map_cons, List.map_nil, hs, hx, hr]
  exact h v' w' h2 h3 h4
 ·obtain rfl : m = 0 := by omega
  obtain rfl : l = [] := List.eq_nil_of_length_eq_zero hm
  obtain ⟨av, cv, hv, hle⟩ := own_slice hown
  have hsrc : Src P i.size t (.slice ao 0 cc) 0 [] w := by
   cases ao with
   | none => exact Src.ofNil w ht cc
   | some ad => exact Src.ofSlice w ht _ 0 cc [] (by simp) (fun j u hu => by simp at hu) (fun u hu => by cases hu)
  have hr := run_append_nothing (P := P) w t t o.type e i ht hi av n cv hle (.slice ao 0 cc) hsrc
  unfold Oper.wp execOp
  subst hv
  simp only [ho, resolve, invoke, builtin, Sem.run_bind, Sem.run_pure, Result.andThen_ok, List.map_toArray, List.map_cons, List.map_nil, hs, hx, hr]
  refine h _ _ ?_ ⟨rfl, rfl, rfl, Nat.le_refl _, fun _ _ _ => rfl⟩ (.inl rfl)
  show w.ownsRow base e 1 _ (n + 0) (xs ++ [])
  rw [List.append_nil]
  exact hown
theorem Ring.agree {T : List Tk} {row row' : Array Value} {o : Nat} {ls : List (Nat × Obj)} (h : Ring T row o ls) (hs : row'.size = row.size) (he : ∀ j, o ≤ j → j < o + 35 → row'[j]? = row[j]?) : Ring T row' o ls := by
 obtain ⟨h1, h2, h3, h4⟩ := h
 refine ⟨by rw [hs]; exact h1, by rw [he _ (by omega) (by omega)]; exact h2, fun k hk => ?_, fun j hj hl => ?_⟩
 ·rw [he _ (by omega) (by omega), he _ (by omega) (by omega)]; exact h3 k hk
 ·rw [he _ (by omega) (by omega), he _ (by omega) (by omega)]; exact h4 j hj hl
theorem PackRow.put {b : Bp} {T : List Tk} {wb E D : Nat} {row : Array Value} {ls ls' : List (Nat × Obj)} (h : PackRow b T wb E D row ls) (t : Tk) (s : Option Addr) (d E' : Nat) (hd : t.1.length ≤ d) (hst : Stands ls' s t.1) (hls : ∀ p ∈ ls, p ∈ ls') :
  PackRow b (T ++ [t]) wb E' D ((putRow row 5 T.length (.slice s t.1.length d) (t.2 : Int)).setIfInBounds 41 (.int .i64 (E' : Int))) ls' := by
 have hz := h.size
 have hps : (putRow row 5 T.length (.slice s t.1.length d) (t.2 : Int)).size = 43 := by rw [putRow_size, hz]
 have low : ∀ j, j < 5 → ((putRow row 5 T.length (.slice s t.1.length d) (t.2 : Int)).setIfInBounds 41 (.int .i64 (E' : Int)))[j]? = row[j]? := fun j hj => by
  rw [Array.getElem?_setIfInBounds_ne (by omega), putRow_get _ (by omega), if_neg (by omega), if_neg (by omega), if_neg (by omega)]
 have high : ∀ j, 40 ≤ j → j < 43 → j ≠ 41 → ((putRow row 5 T.length (.slice s t.1.length d) (t.2 : Int)).setIfInBounds 41 (.int .i64 (E' : Int)))[j]? = row[j]? := fun j h1 h2 h3 => by
  rw [Array.getElem?_setIfInBounds_ne (by omega), putRow_get _ (by omega), if_neg (by omega), if_neg (by omega), if_neg (by omega)]
 exact ⟨by rw [Array.size_setIfInBounds, hps], by rw [low _ (by decide)]; exact h.p0, by rw [low _ (by decide)]; exact h.p1, by rw [low _ (by decide)]; exact h.p2, by rw [low _ (by decide)]; exact h.p3, by rw [low _ (by decide)]; exact h.p4,
  ((h.ring.more hls).put t s d hd hst).agree (by rw [Array.size_setIfInBounds]) (fun j h1 h2 => by rw [Array.getElem?_setIfInBounds_ne (by omega)]),
  by rw [high _ (by decide) (by decide) (by decide)]; exact h.w, by rw [Array.getElem?_setIfInBounds_self_of_lt (by omega)], by rw [high _ (by decide) (by decide) (by decide)]; exact h.d⟩
theorem TryS.enc {w W : World} {b : Bp} {T : List Tk} {wb E D : Nat} {l : Bits} {rd : Option (Nat × ByteArray × Nat)} {kb : Nat} {row : Array Value} {ls : List (Nat × Obj)} {bk bs bx bl br bb : Nat} {sv lv rv v u : Value} {K : List (Nat × Obj)} (h : TryS w b T wb E D l rd kb row ls bk bs bx bl br bb sv lv rv v u K W)
  (hG : GL w) (p : Pr) (x : Nat) (a : Option Addr) (succ : List Nat) (cap : Nat) (c : Option Addr) (ref : List Nat) (capb r : Nat) (hc : succ.length ≤ cap) (hcb : ref.length ≤ capb) (hm : MayN x succ ref r p) (hA : LV W a succ) (hB : LV W c ref) (hl : l.length + (lay x succ ref r p).length ≤ 134217728) :
  Calls Tryz.prog 59 #[.pointer (some ⟨wb, 0, none⟩), .int .i64 (x : Int), .slice a succ.length cap, .slice c ref.length capb, .int .i64 (r : Int), parV (p.win : Int) (p.itv : Int) (p.zet : Int)] W fun e w' =>
   e = .returned (.int .i64 0) ∧ TryS w b T wb E D (l ++ lay x succ ref r p) rd kb row ls bk bs bx bl br bb sv lv rv v u K w' := by
 have kb' := h.fs.below
 obtain ⟨y, hf, hw, hr, hk⟩ := h.fs
 refine (lenc_yes y 0 1 2 (by decide) (by decide) (by decide) p x W (hG.below kb') wb l a succ cap c ref capb r hc hcb hm hA hB hl (hw _ rfl)).mono ?_
 rintro e w' ⟨rfl, x', f2, hw2⟩
 exact ⟨rfl, ⟨x', hf.trans (f2.mono (fun c hc => by show c < 50; omega)), fun q e => by cases e; exact hw2, fun q e => rdc_frame (hr q e) f2 (by decide), rows_frame hk f2 (by decide)⟩, h.k, h.kk, h.ks, h.kx, h.kl, h.ne, h.row⟩
theorem TryS.cells2 {w W : World} {b : Bp} {T : List Tk} {wb E D : Nat} {l : Bits} {rd : Option (Nat × ByteArray × Nat)} {kb : Nat} {row : Array Value} {ls : List (Nat × Obj)} {bk bs bx bl br bb : Nat} {sv lv rv v u : Value} {K : List (Nat × Obj)} (h : TryS w b T wb E D l rd kb row ls bk bs bx bl br bb sv lv rv v u K W) :
  W.cell? ⟨kb, 40, none⟩ = some (.pointer (some ⟨wb, 0, none⟩)) ∧ W.cell? ⟨bb, 0, none⟩ = some v ∧ W.cell? ⟨bb, 1, none⟩ = some u ∧ W.cell? ⟨kb, 41, none⟩ = some (.int .i64 (E : Int)) := by
 have r3 := h.fs.row (List.mem_cons_of_mem _ (List.mem_cons_of_mem _ (List.mem_cons_self ..)))
 exact ⟨by rw [cell_of_row _ _ _ _ _ _ (h.has h.k)]; exact h.row.w, by rw [cell_of_row _ _ _ _ _ _ r3]; rfl, by rw [cell_of_row _ _ _ _ _ _ r3]; rfl, by rw [cell_of_row _ _ _ _ _ _ (h.has h.k)]; exact h.row.e⟩
/-- the answer of Add -/
def AddP (w : World) (N : Nat) (b : Bp) (T : List Tk) (wb E D : Nat) (l : Bits) (rd : Option (Nat × ByteArray × Nat)) (kb : Nat) (succ : List Nat) (ls ks : List (Nat × Obj)) (e : Ending) (w' : World) : Prop :=
 e = .returned (.tuple #[.int .i64 ((pickB b T succ).2.1 : Int), .int .i64 ((pickB b T succ).1 : Int), .int .i64 0]) ∧ ∃ ls', KS w b (T ++ [putB b T succ]) wb (E + succ.length) D (l ++ addB b T succ) rd kb ls' ks w' ∧ ∀ p ∈ ls', p ∈ ls ∨ N ≤ p.1
set_option maxRecDepth 100000 in
set_option maxHeartbeats 12800000 in
theorem add_yes {w W : World} {b : Bp} {T : List Tk} {wb E D : Nat} {l : Bits} {rd : Option (Nat × ByteArray × Nat)} {kb : Nat} {ls ks : List (Nat × Obj)} {a : Option Addr} {succ : List Nat} {cap : Nat}
  (h : KS w b T wb E D l rd kb ls ks W) (hG : GL w) (hb : b.p.ok) (hdp : b.depth ≤ 16) (hx : T.length < 65536) (hs : Ris succ) (hT : TOk T) (hc : succ.length ≤ cap) (hA : Seen w ks a succ) (hE : E + succ.length ≤ 1048576) (hl : l.length + (addB b T succ).length ≤ 134217728) :
  Calls Tryz.prog 37 #[.pointer (some ⟨kb, 0, none⟩), .slice a succ.length cap] W (AddP w W.heap.size b T wb E D l rd kb succ ls ks) := by
 obtain ⟨row, hF, hne, hR⟩ := h
 have hs9 := hs.len
 have HF := Lib.hid hF
 have HNE := Lib.hid hne
 have HR := Lib.hid hR
 have HS := Lib.hid hs
 have HTO := Lib.hid hT
 have HAS := Lib.hid hA
 obtain ⟨n, hn⟩ : ∃ n, succ.length = n := ⟨_, rfl⟩
 have HN := Lib.hid hn
 obtain ⟨nt, hnt⟩ : ∃ n, T.length = n := ⟨_, rfl⟩
 have HNT := Lib.hid hnt
 rw [hn] at hc hE hs9 ⊢
 rw [hnt] at hx
 have RK : Hid (∀ W' : World, W'.heap[kb]? = some (.cells row 129 (0, 0)) → W'.cell? ⟨kb, 39, none⟩ = some (.int .i64 (nt : Int)) ∧ W'.cell? ⟨kb, 41, none⟩ = some (.int .i64 (E : Int)) ∧ W'.cell? ⟨kb, 40, none⟩ = some (.pointer (some ⟨wb, 0, none⟩)) ∧
   W'.cell? ⟨kb, 0, none⟩ = some (.int .i64 (b.p.win : Int)) ∧ W'.cell? ⟨kb, 1, none⟩ = some (.int .i64 (b.depth : Int)) ∧ W'.cell? ⟨kb, 2, none⟩ = some (.int .i64 (b.p.itv : Int)) ∧ W'.cell? ⟨kb, 3, none⟩ = some (.int .i64 (b.p.zet : Int)) ∧ W'.cell? ⟨kb, 4, none⟩ = some (.int .i64 (b.cap : Int))) := Lib.hid (fun W' hW => by
  have e := fun j => cell_of_row W' kb j row 129 (0, 0) hW
  exact ⟨by rw [e, ← hnt]; exact hR.ring.2.1, by rw [e]; exact hR.e, by rw [e]; exact hR.w, by rw [e]; exact hR.p0, by rw [e]; exact hR.p1, by rw [e]; exact hR.p2, by rw [e]; exact hR.p3, by rw [e]; exact hR.p4⟩)
 clear hF hne hR hn hnt hs hT hA
 go_enter Tryz.func37, Tryz.ntmps37
 go_upto_region 1 with fail
 generalize hW : World.alloc (World.alloc (World.alloc W _) _) _ = W1
 obtain ⟨r1, r2, r3, k1⟩ := rows3 hW
 obtain ⟨K1, hK1⟩ : ∃ K, [(W.heap.size + 1 + 1, Obj.cells #[.int .i64 0] 3 (0, 0)), (W.heap.size + 1, Obj.cells #[.slice a n cap] 34 (0, 0)), (W.heap.size, Obj.cells #[.pointer (some ⟨kb, 0, none⟩)] 79 (0, 0))] ++ ((kb, .cells row 129 (0, 0)) :: (ls ++ ks)) = K := ⟨_, rfl⟩
 have F1 : Hid (FS w (some (wb, l)) rd K1 W1) := Lib.hid (by
  rw [← hK1]
  refine HF.out.more k1 (fun p hp => ?_)
  simp only [List.mem_cons, List.not_mem_nil, or_false] at hp
  rcases hp with rfl | rfl | rfl
  ·exact ⟨Nat.le_add_right _ 2, r3⟩
  ·exact ⟨Nat.le_add_right _ 1, r2⟩
  ·exact ⟨Nat.le_refl _, r1⟩)
 have c1 : W1.cell? ⟨W.heap.size, 0, none⟩ = some (.pointer (some ⟨kb, 0, none⟩)) := by rw [cell_of_row _ _ _ _ _ _ r1]; rfl
 obtain ⟨d1, d2, d3, p0, p1, p2, p3, p4⟩ := RK.out W1 ((k1.block _ (lt_of_block (HF.out.row (List.mem_cons_self ..)))).trans (HF.out.row (List.mem_cons_self ..)))
 have i1 : decide ((65536 : Int) ≤ (nt : Int)) = false := decide_eq_false (by omega)
 clear hW r1 r2 r3 k1
 go_wp2_with fail
 have F2 := Lib.hid (F1.out.add #[.int .i64 (nt : Int)] 3)
 obtain ⟨bx, hbx⟩ : ∃ z, W1.heap.size = z := ⟨_, rfl⟩
 rw [hbx] at F2 ⊢
 obtain ⟨K2, hK2⟩ : ∃ K, (bx, Obj.cells #[.int .i64 (nt : Int)] 3 (0, 0)) :: K1 = K := ⟨_, rfl⟩
 rw [hK2] at F2
 generalize World.alloc W1 _ = W2 at F2 ⊢
 have mK : Hid ((kb, Obj.cells row 129 (0, 0)) ∈ K2) := Lib.hid (by rw [← hK2, ← hK1]; simp)
 have mk : Hid ((W.heap.size, Obj.cells #[.pointer (some ⟨kb, 0, none⟩)] 79 (0, 0)) ∈ K2) := Lib.hid (by rw [← hK2, ← hK1]; simp)
 have ms : Hid ((W.heap.size + 1, Obj.cells #[.slice a n cap] 34 (0, 0)) ∈ K2) := Lib.hid (by rw [← hK2, ← hK1]; simp)
 have mr : Hid ((W.heap.size + 1 + 1, Obj.cells #[.int .i64 0] 3 (0, 0)) ∈ K2) := Lib.hid (by rw [← hK2, ← hK1]; simp)
 have mx : Hid ((bx, Obj.cells #[.int .i64 (nt : Int)] 3 (0, 0)) ∈ K2) := Lib.hid (by rw [← hK2]; simp)
 have ml : Hid (∀ p ∈ ls, p ∈ K2) := Lib.hid (fun p hp => by rw [← hK2, ← hK1]; simp [hp])
 have mks : Hid (∀ p ∈ ks, p ∈ K2) := Lib.hid (fun p hp => by rw [← hK2, ← hK1]; simp [hp])
 have HLT : Hid (∀ q ∈ (kb, Obj.cells row 129 (0, 0)) :: (ls ++ ks), q.1 < W.heap.size) := Lib.hid (fun q hq => lt_of_block (HF.out.row (b := q.1) (o := q.2) hq))
 have HBX : Hid (W.heap.size + 1 + 1 < bx) := Lib.hid (by
  rw [← hbx]
  exact lt_of_block (F1.out.row (b := W.heap.size + 1 + 1) (o := Obj.cells #[.int .i64 0] 3 (0, 0)) (by rw [← hK1]; simp)))
 obtain ⟨bk, hbk⟩ : ∃ z, W.heap.size = z := ⟨_, rfl⟩
 have HBK := Lib.hid hbk
 rw [hbk] at mk ms mr HLT HBX ⊢
 obtain ⟨bs, hbs⟩ : ∃ z, bk + 1 = z := ⟨_, rfl⟩
 obtain ⟨br, hbr⟩ : ∃ z, bs + 1 = z := ⟨_, rfl⟩
 have HB : Hid (bk + 1 = bs ∧ bs + 1 = br) := Lib.hid ⟨hbs, hbr⟩
 rw [hbs] at ms mr HBX ⊢
 rw [hbr] at mr HBX ⊢
 clear hbx hK2 hK1 hbk hbs hbr c1 d1 d2 d3 p0 p1 p2 p3 p4 F1
 have CK : Hid (∀ W', Below W2.heap.size W2 W' → W'.cell? ⟨bx, 0, none⟩ = some (.int .i64 (nt : Int)) ∧ W'.cell? ⟨bs, 0, none⟩ = some (.slice a n cap) ∧ W'.cell? ⟨bk, 0, none⟩ = some (.pointer (some ⟨kb, 0, none⟩)) ∧ W'.cell? ⟨kb, 0, none⟩ = some (.int .i64 (b.p.win : Int)) ∧ W'.cell? ⟨kb, 1, none⟩ = some (.int .i64 (b.depth : Int)) ∧ W'.cell? ⟨kb, 2, none⟩ = some (.int .i64 (b.p.itv : Int)) ∧ W'.cell? ⟨kb, 3, none⟩ = some (.int .i64 (b.p.zet : Int)) ∧ W'.cell? ⟨kb, 4, none⟩ = some (.int .i64 (b.cap : Int)) ∧ Below W2.heap.size W2 W') := Lib.hid (fun W' k => by
  have hr : ∀ q : Nat × Obj, q ∈ K2 → W'.heap[q.1]? = some q.2 := fun q hq => (k.block _ (lt_of_block (F2.out.row (b := q.1) (o := q.2) hq))).trans (F2.out.row (b := q.1) (o := q.2) hq)
  obtain ⟨e1, e2, e3, e4, e5, e6, e7, e8⟩ := RK.out W' (hr _ mK.out)
  exact ⟨by rw [cell_of_row _ _ _ _ _ _ (hr _ mx.out)]; rfl, by rw [cell_of_row _ _ _ _ _ _ (hr _ ms.out)]; rfl, by rw [cell_of_row _ _ _ _ _ _ (hr _ mk.out)]; rfl, e4, e5, e6, e7, e8, k⟩)
 have LVS : Hid (∀ W', Below W2.heap.size W2 W' → LV W' a succ) := Lib.hid (fun W' k => HAS.out W' (F2.out.below.trans (k.mono F2.out.below.size)) (fun q hq => (k.block _ (lt_of_block (F2.out.row (b := q.1) (o := q.2) (mks.out q hq)))).trans (F2.out.row (b := q.1) (o := q.2) (mks.out q hq))))
 obtain ⟨n0, hn0⟩ : ∃ z, (lay T.length succ [] 0 b.p).length = z := ⟨_, rfl⟩
 have HN0 := Lib.hid hn0
 have BI : Hid (∀ W', Below W2.heap.size W2 W' → Calls Tryz.prog 66 #[.int .i64 (nt : Int), .slice a n cap, .slice none 0 0, .int .i64 0, .agg #[.int .i64 (b.p.win : Int), .int .i64 (b.p.itv : Int), .int .i64 (b.p.zet : Int)]] W' fun e w' => e = .returned (.tuple #[.int .i64 (n0 : Int), .int .i64 0]) ∧ Below W'.heap.size W' w') := Lib.hid (fun W' k => by
  have h1 := lbits_yes b.p T.length W' (hG.below (F2.out.below.trans (k.mono F2.out.below.size))) a succ cap none [] 0 0 (by rw [HN.out]; exact hc) (Nat.le_refl _) (plain_may hb (by rw [HNT.out]; exact hx) HS.out) (LVS.out W' k) LV.nil
  rw [HN.out, hn0, HNT.out] at h1
  exact h1)
 have BL := Lib.hid (fun W' => blist_any (b.p.win : Int) (b.depth : Int) (b.p.itv : Int) (b.p.zet : Int) (b.cap : Int) W')
 unfold bpV parV at BL
 have KX : Hid (∀ W' W'', Below W2.heap.size W2 W' → Below W'.heap.size W' W'' → Below W2.heap.size W2 W'') := Lib.hid (fun W' W'' h k => h.trans (k.mono h.size))
 have KB : Hid (∀ W' o, Below W2.heap.size W2 W' → Below W2.heap.size W2 (W'.alloc o)) := Lib.hid (fun W' o k => k.alloc k.size _)
 have KS1 : Hid (∀ W' g u1, W2.heap.size ≤ g → Below W2.heap.size W2 W' → Below W2.heap.size W2 (W'.setCell ⟨g, 0, none⟩ u1)) := Lib.hid (fun W' g u1 h k => k.setCell h _)
 have FN : Hid (∀ W' g, W2.heap.size ≤ g → Below W2.heap.size W2 W' → W'.heap[g]? = some (.cells #[.int .i64 (n0 : Int)] 3 (0, 0)) → FS w (some (wb, l)) rd ((g, .cells #[.int .i64 (n0 : Int)] 3 (0, 0)) :: K2) W' ∧ W2.heap.size ≤ g ∧ Below W2.heap.size W2 W') := Lib.hid (fun W' g h k hr => ⟨F2.out.more (js := [(g, .cells #[.int .i64 (n0 : Int)] 3 (0, 0))]) k (fun p hp => by rw [List.mem_singleton.1 hp]; exact ⟨h, hr⟩), h, k⟩)
 have NR : Hid (∀ (W' : World) (g : Nat), W'.heap[g]? = some (.cells #[.int .i64 0] 3 (0, 0)) → W'.cell? ⟨g, 0, none⟩ = some (.int .i64 0) ∧ W'.frozen? ⟨g, 0, none⟩ = false) := Lib.hid (fun W' g h => ⟨by rw [cell_of_row _ _ _ _ _ _ h]; rfl, frozen_of_row W' g 0 _ _ h⟩)
 have NB : Hid (∀ W' : World, (W'.alloc (.cells #[.int .i64 0] 3)).cell? ⟨W'.heap.size, 0, none⟩ = some (.int .i64 0) ∧ (W'.alloc (.cells #[.int .i64 0] 3)).frozen? ⟨W'.heap.size, 0, none⟩ = false) := Lib.hid (fun W' => NR.out _ _ (heap_alloc_new W' _))
 obtain ⟨c1, c2, c3, p0, p1, p2, p3, p4, -⟩ := CK.out W2 (Below.refl _ _)
 clear hn0 i1
 go_cut [6, 8] from 29 to 39 (fun v6 v8 wc => ∃ bl, v6 = .int .i64 0 ∧ v8 = .pointer (some ⟨bl, 0, none⟩) ∧ FS w (some (wb, l)) rd ((bl, .cells #[.int .i64 (n0 : Int)] 3 (0, 0)) :: K2) wc ∧ W2.heap.size ≤ bl ∧ Below W2.heap.size W2 wc)
 case first =>
  have K0 := Below.refl W2.heap.size W2
  go_region_held3 (fun W' => W'.cell? ⟨bx, 0, none⟩ = some (.int .i64 (nt : Int)) ∧ W'.cell? ⟨bs, 0, none⟩ = some (.slice a n cap) ∧ W'.cell? ⟨bk, 0, none⟩ = some (.pointer (some ⟨kb, 0, none⟩)) ∧ W'.cell? ⟨kb, 0, none⟩ = some (.int .i64 (b.p.win : Int)) ∧ W'.cell? ⟨kb, 1, none⟩ = some (.int .i64 (b.depth : Int)) ∧ W'.cell? ⟨kb, 2, none⟩ = some (.int .i64 (b.p.itv : Int)) ∧ W'.cell? ⟨kb, 3, none⟩ = some (.int .i64 (b.p.zet : Int)) ∧ W'.cell? ⟨kb, 4, none⟩ = some (.int .i64 (b.cap : Int)) ∧ Below W2.heap.size W2 W')
   (first
    | exact CK.out _ (by assumption)
    | exact CK.out _ (Below.drew (by assumption))
    | exact CK.out _ (KB.out _ _ (by assumption))
    | exact CK.out _ (Below.drew (KB.out _ _ (by assumption)))
    | exact CK.out _ (KS1.out _ _ _ (Nat.le_refl _) k8)
    | exact CK.out _ (KS1.out _ _ _ k6.size k8))
   (first
    | (go_at_call 26; (with_reducible refine (BL.out _).mono ?_); rintro e w5 ⟨rfl, k5⟩; have k6 := (by first | exact KX.out _ _ (by assumption) k5 | exact KX.out _ _ (Below.drew (by assumption)) k5 | exact KX.out _ _ (Below.drew (KB.out _ _ (by assumption))) k5 | exact KX.out _ _ (KB.out _ _ (by assumption)) k5 : Below W2.heap.size W2 w5); (try (have rA : w5.heap[W2.heap.size]? = some (.cells #[.int .i64 0] 3 (0, 0)) := (k5.block _ (by simp)).trans (heap_alloc_new W2 _))))
    | (go_at_call 66; (with_reducible refine (BI.out _ (by first | exact k6 | exact Below.drew k6 | exact KB.out _ _ k6 | exact Below.drew (KB.out _ _ k6))).mono ?_); rintro e w6 ⟨rfl, k7⟩; have k8 := (by first | exact KX.out _ _ k6 k7 | exact KX.out _ _ (Below.drew k6) k7 | exact KX.out _ _ (KB.out _ _ k6) k7 | exact KX.out _ _ (Below.drew (KB.out _ _ k6)) k7 : Below W2.heap.size W2 w6); have nb := NB.out w6; obtain ⟨nb1, nb2⟩ := nb; (try (have rB : w6.heap[W2.heap.size]? = some (.cells #[.int .i64 0] 3 (0, 0)) := (k7.block _ (lt_of_block rA)).trans rA; obtain ⟨ra1, ra2⟩ := NR.out _ _ rB)); (try (have rC : w6.heap[w5.heap.size]? = some (.cells #[.int .i64 0] 3 (0, 0)) := (k7.block _ (by simp)).trans (heap_alloc_new w5 _); obtain ⟨rc1, rc2⟩ := NR.out _ _ rC))))
  all_goals
   go_wp2_with fail
   refine Met.intro ?_
   apply_assumption
   (repeat apply Exists.intro)
   refine ⟨?_, rfl⟩
   first
    | exact ⟨_, rfl, rfl, FN.out _ _ k8.size (KB.out _ _ k8) (heap_alloc_new w6 _)⟩
    | exact ⟨_, rfl, rfl, FN.out _ _ (Nat.le_refl _) (KS1.out _ _ _ (Nat.le_refl _) k8) (heap_setCell_same w6 _ 0 _ _ _ rB)⟩
    | exact ⟨_, rfl, rfl, FN.out _ _ k6.size (KS1.out _ _ _ k6.size k8) (heap_setCell_same w6 _ 0 _ _ _ rC)⟩
 case rest =>
  obtain ⟨bl, rfl, rfl, hF3, hbl, hk3⟩ := hcut
  have F3 := Lib.hid hF3
  have K3 := Lib.hid (And.intro hbl hk3)
  clear hF3 hbl hk3 BI FN NB NR KS1 c1 c2 c3 p0 p1 p2 p3 p4
  obtain ⟨c1, c2, c3, p0, p1, p2, p3, p4, -⟩ := CK.out wc K3.out.2
  obtain ⟨-, d2, d3, -⟩ := RK.out wc (F3.out.row (List.mem_cons_of_mem _ mK.out))
  have i2 : decide ((1048576 : Int) < (E : Int) + (n : Int)) = false := decide_eq_false (by omega)
  go_upto_region 9 with fail
  go_big_region
  go_upto_region 13 with fail
  obtain ⟨K5, hK5⟩ : ∃ K, (bx, Obj.cells #[.int .i64 (nt : Int)] 3 (0, 0)) :: (bs, Obj.cells #[.slice a n cap] 34 (0, 0)) :: (bk, Obj.cells #[.pointer (some ⟨kb, 0, none⟩)] 79 (0, 0)) :: (kb, Obj.cells row 129 (0, 0)) :: (ls ++ ks) = K := ⟨_, rfl⟩
  have HSUB : Hid (∀ p ∈ K5, p ∈ K2) := Lib.hid (fun p hp => by
   rw [← hK5] at hp
   simp only [List.mem_cons, List.mem_append] at hp
   rcases hp with rfl | rfl | rfl | rfl | h | h
   ·exact mx.out
   ·exact ms.out
   ·exact mk.out
   ·exact mK.out
   ·exact ml.out p h
   ·exact mks.out p h)
  have HNB : Hid (∀ p ∈ K5, p.1 ≠ br) := Lib.hid (fun p hp => by
   have h1 := HB.out
   have h2 := HBX.out
   rw [← hK5] at hp
   simp only [List.mem_cons] at hp
   rcases hp with rfl | rfl | rfl | h
   ·show bx ≠ br; omega
   ·show bs ≠ br; omega
   ·show bk ≠ br; omega
   ·have := HLT.out p (by simpa using h)
    omega)
  have hK2lt : ∀ p ∈ K2, p.1 < W2.heap.size := fun p hp => lt_of_block (F2.out.row (b := p.1) (o := p.2) hp)
  have F4 := F3.out.add #[.slice none 0 0, .int .i64 0] 123
  obtain ⟨bb, hbb⟩ : ∃ z, wc.heap.size = z := ⟨_, rfl⟩
  have hblb : bl < bb := by rw [← hbb]; exact lt_of_block (F3.out.row (List.mem_cons_self ..))
  have hszb : W2.heap.size ≤ bb := by rw [← hbb]; exact K3.out.2.size
  rw [hbb] at F4 ⊢
  have TS : Hid (TryS w b T wb E D l rd kb row ls bk bs bx bl br bb (.slice a n cap) (.int .i64 (n0 : Int)) (.int .i64 0) (.slice none 0 0) (.int .i64 0) K5 (wc.alloc (.cells #[.slice none 0 0, .int .i64 0] 123))) := Lib.hid (by
   refine ⟨F4.sub (fun p hp => ?_), ?_, ?_, ?_, ?_, ?_, ⟨?_, ?_, ?_, fun p hp => ⟨?_, HNB.out p hp, ?_⟩⟩, HR.out⟩
   ·simp only [List.mem_cons] at hp ⊢
    rcases hp with h | h | h | h
    ·exact .inr (.inl h)
    ·rw [h]; exact .inr (.inr mr.out)
    ·exact .inl h
    ·exact .inr (.inr (HSUB.out p h))
   ·rw [← hK5]; simp
   ·rw [← hK5]; simp
   ·rw [← hK5]; simp
   ·rw [← hK5, HNT.out]; simp
   ·intro p hp; rw [← hK5]; simp [hp]
   ·have h1 := hK2lt _ mr.out
    have h2 := K3.out.1
    dsimp only at h1
    omega
   ·omega
   ·have h1 := hK2lt _ mr.out
    dsimp only at h1
    omega
   ·have h1 := hK2lt p (HSUB.out p hp)
    have h2 := K3.out.1
    omega
   ·have h1 := hK2lt p (HSUB.out p hp)
    omega)
  have HKK : Hid (∀ p ∈ ls ++ ks, p ∈ K5) := Lib.hid (fun p hp => by rw [← hK5]; exact List.mem_cons_of_mem _ (List.mem_cons_of_mem _ (List.mem_cons_of_mem _ (List.mem_cons_of_mem _ hp))))
  have hkbk : kb < bk := HLT.out _ (List.mem_cons_self ..)
  obtain ⟨K6, hK6⟩ : ∃ K, (bx, Obj.cells #[.int .i64 (nt : Int)] 3 (0, 0)) :: (bs, Obj.cells #[.slice a n cap] 34 (0, 0)) :: (bk, Obj.cells #[.pointer (some ⟨kb, 0, none⟩)] 79 (0, 0)) :: (ls ++ ks) = K := ⟨_, rfl⟩
  have H56 : Hid (∀ p ∈ (kb, Obj.cells row 129 (0, 0)) :: K6, p ∈ K5) := Lib.hid (fun p hp => by
   rw [← hK6] at hp
   rw [← hK5]
   simp only [List.mem_cons] at hp ⊢
   rcases hp with h | h | h | h | h
   ·exact .inr (.inr (.inr (.inl h)))
   ·exact .inl h
   ·exact .inr (.inl h)
   ·exact .inr (.inr (.inl h))
   ·exact .inr (.inr (.inr (.inr h))))
  have H6N : Hid (∀ p ∈ K6, p.1 ≠ kb) := Lib.hid (fun p hp => by
   have h1 := HB.out
   have h2 := HBX.out
   rw [← hK6] at hp
   simp only [List.mem_cons] at hp
   rcases hp with rfl | rfl | rfl | h
   ·show bx ≠ kb; omega
   ·show bs ≠ kb; omega
   ·show bk ≠ kb; omega
   ·exact HNE.out p h)
  have H6K : Hid ((bk, Obj.cells #[.pointer (some ⟨kb, 0, none⟩)] 79 (0, 0)) ∈ K6 ∧ (bs, Obj.cells #[.slice a n cap] 34 (0, 0)) ∈ K6 ∧ ∀ p ∈ ls ++ ks, p ∈ K6) := Lib.hid ⟨by rw [← hK6]; simp, by rw [← hK6]; simp, fun p hp => by rw [← hK6]; exact List.mem_cons_of_mem _ (List.mem_cons_of_mem _ (List.mem_cons_of_mem _ hp))⟩
  have HKB : Hid ((kb, Obj.cells row 129 (0, 0)) ∈ K5) := Lib.hid (by rw [← hK5]; simp)
  generalize World.alloc wc _ = W5 at TS ⊢
  clear hkbk hK6 hK5 hK2lt F4 hbb hblb hszb F3 K3 c1 c2 c3 p0 p1 p2 p3 p4 d2 d3 i2 mK mk ms mr mx ml mks HLT HBX HB HSUB HNB CK LVS KX KB F2
  have TS5 : Hid (TryS w b T wb E D l rd kb row ls bk bs bx bl br bb (.slice a n cap) (.int .i64 (n0 : Int)) (.int .i64 0) (.slice none 0 0) (.int .i64 0) K5 W5.drew) := Lib.hid TS.out.drew
  obtain ⟨wn, hwn⟩ : ∃ z, b.p.win = z := ⟨_, rfl⟩
  have HWN := Lib.hid hwn
  have hw16 : wn ≤ 16 := by rw [← hwn]; exact hb.1
  obtain ⟨c1, c2, c3, c4, c5, d0, d1, d2, d3, d4⟩ := TS5.out.cells
  rw [hwn] at d0
  have c1 : W5.cell? ⟨bk, 0, none⟩ = some (.pointer (some ⟨kb, 0, none⟩)) := c1
  have d0 : W5.cell? ⟨kb, 0, none⟩ = some (.int .i64 (wn : Int)) := d0
  clear c2 c3 c4 c5 d1 d2 d3 d4 hwn
  go_wp2_with fail
  go_loopw [59] (fun v59 wr => ∃ (r : Nat) (v u : Value), v59 = .int .i64 (r : Int) ∧ r ≤ wn ∧ TryS w b T wb E D l rd kb row ls bk bs bx bl br bb (.slice a n cap) (.int .i64 ((pickN b T succ r).1 : Int)) (.int .i64 ((pickN b T succ r).2.1 : Int)) v u K5 wr ∧ Slot K5 (pickN b T succ r).2.2 v u) (fun v59 _ => wn - (intOf v59).toNat)
  case atStart =>
   refine ⟨0, _, _, rfl, Nat.zero_le _, ?_, ⟨none, 0, rfl, rfl, Nat.le_refl _, fun W _ => LV.nil⟩⟩
   show TryS w b T wb E D l rd kb row ls bk bs bx bl br bb (.slice a n cap) (.int .i64 ((lay T.length succ [] 0 b.p).length : Int)) (.int .i64 0) (.slice none 0 0) (.int .i64 0) K5 _
   rw [HN0.out]
   exact TS5.out
  case round =>
   obtain ⟨r, v, u, rfl, hr, hS, hsl⟩ := hrel
   rename World => wr
   by_cases hlt : r < wn
   ·have TR := try_any (succ := succ) (cap := cap) (a := a) (q := pickN b T succ r) (by rw [HN.out]; exact hS) hG hb (by rw [HNT.out]; exact hx) HS.out HTO.out (by rw [HN.out]; exact hc) (HAS.out.more (fun p hp => HKK.out p (List.mem_append_right _ hp))) hsl (r + 1) ⟨by omega, by omega⟩
    rw [HN.out, ← pickN_succ, show ((r + 1 : Nat) : Int) = (r : Int) + 1 by omega] at TR
    have HTR := Lib.hid TR
    have i1 : decide ((r : Int) < (wn : Int)) = true := decide_eq_true (by omega)
    clear TR hS hsl c1 d0
    go_wp2_with fail
    with_reducible refine HTR.out.mono ?_
    rintro e w6 ⟨rfl, v', u', hS', hsl'⟩
    have HS' := Lib.hid (And.intro hS' hsl')
    clear hS' hsl' HTR
    go_wp2_with fail
    go_roundw
    case rel => exact ⟨r + 1, v', u', by go_num, by omega, HS'.out.1, HS'.out.2⟩
    case measure => simp [intOf]; omega
   ·have hre : r = wn := by omega
    subst hre
    have i1 : decide ((r : Int) < (r : Int)) = false := decide_eq_false (by omega)
    have PB := Lib.hid (pickB_ok b T succ)
    have hmq := PB.out.may hb (by rw [HNT.out]; exact hx) HS.out HTO.out
    have HPK : pickB b T succ = pickN b T succ r := by unfold pickB; rw [HWN.out]
    obtain ⟨q, hq⟩ : ∃ q, pickB b T succ = q := ⟨_, rfl⟩
    have ADDB : Hid (addB b T succ = lay T.length succ q.2.2.1 q.2.1 b.p) := Lib.hid (by rw [← hq]; rfl)
    have PUTB : Hid (putB b T succ = (succ, chainOf q)) := Lib.hid (by rw [← hq]; rfl)
    rw [← HPK, hq] at hS hsl
    rw [hq] at hmq PB
    have HQ := Lib.hid hq
    have hl2 : l.length + (lay T.length succ q.2.2.1 q.2.1 b.p).length ≤ 134217728 := by rw [← ADDB.out]; exact hl
    obtain ⟨lq, rq, tl, tc⟩ := q
    dsimp only at hS hsl hmq hl2
    obtain ⟨s9, d9, e1, e2, hd9, hst9⟩ := hsl
    subst e1 e2
    dsimp only at hS hd9 hst9
    obtain ⟨tn, htn⟩ : ∃ z, tl.length = z := ⟨_, rfl⟩
    have HTN := Lib.hid htn
    rw [htn] at hS hd9
    have HTS := Lib.hid hS
    have HST := Lib.hid hst9
    have EN : Hid (∀ W', TryS w b T wb E D l rd kb row ls bk bs bx bl br bb (.slice a n cap) (.int .i64 (lq : Int)) (.int .i64 (rq : Int)) (.slice s9 tn d9) (.int .i64 (tc : Int)) K5 W' → Calls Tryz.prog 59 #[.pointer (some ⟨wb, 0, none⟩), .int .i64 (nt : Int), .slice a n cap, .slice s9 tn d9, .int .i64 (rq : Int), .agg #[.int .i64 (b.p.win : Int), .int .i64 (b.p.itv : Int), .int .i64 (b.p.zet : Int)]] W' fun e w' =>
      e = .returned (.int .i64 0) ∧ TryS w b T wb E D (l ++ addB b T succ) rd kb row ls bk bs bx bl br bb (.slice a n cap) (.int .i64 (lq : Int)) (.int .i64 (rq : Int)) (.slice s9 tn d9) (.int .i64 (tc : Int)) K5 w') := Lib.hid (fun W' h' => by
     have h2 := h'.enc hG b.p T.length a succ cap s9 tl d9 rq (by rw [HN.out]; exact hc) (by rw [HTN.out]; exact hd9) hmq (HAS.out W' h'.fs.below (fun p hp => h'.has (HKK.out p (List.mem_append_right _ hp)))) (HST.out W' (fun p hp => h'.has hp)) hl2
     rw [HN.out, HTN.out, HNT.out] at h2
     rw [ADDB.out]
     dsimp only
     rw [HNT.out]
     exact h2)
    have CT : Hid (∀ l' W', TryS w b T wb E D l' rd kb row ls bk bs bx bl br bb (.slice a n cap) (.int .i64 (lq : Int)) (.int .i64 (rq : Int)) (.slice s9 tn d9) (.int .i64 (tc : Int)) K5 W' → W'.cell? ⟨bk, 0, none⟩ = some (.pointer (some ⟨kb, 0, none⟩)) ∧ W'.cell? ⟨bs, 0, none⟩ = some (.slice a n cap) ∧ W'.cell? ⟨bx, 0, none⟩ = some (.int .i64 (nt : Int)) ∧ W'.cell? ⟨br, 0, none⟩ = some (.int .i64 (rq : Int)) ∧ W'.cell? ⟨kb, 0, none⟩ = some (.int .i64 (b.p.win : Int)) ∧ W'.cell? ⟨kb, 1, none⟩ = some (.int .i64 (b.depth : Int)) ∧ W'.cell? ⟨kb, 2, none⟩ = some (.int .i64 (b.p.itv : Int)) ∧ W'.cell? ⟨kb, 3, none⟩ = some (.int .i64 (b.p.zet : Int)) ∧ W'.cell? ⟨kb, 4, none⟩ = some (.int .i64 (b.cap : Int)) ∧ W'.cell? ⟨kb, 40, none⟩ = some (.pointer (some ⟨wb, 0, none⟩)) ∧ W'.cell? ⟨bb, 0, none⟩ = some (.slice s9 tn d9)) := Lib.hid (fun l' W' h' => by
     obtain ⟨c1, c2, c3, c4, c5, d0, d1, d2, d3, d4⟩ := h'.cells
     obtain ⟨e1, e2, -⟩ := h'.cells2
     rw [HNT.out] at c3
     exact ⟨c1, c2, c3, c5, d0, d1, d2, d3, d4, e1, e2⟩)
    clear hS hst9 htn hmq hl2 hl hq HPK c1 d0 TS TS5
    go_upto_region 18 with fail
    obtain ⟨c1, c2, c3, c5, d0, d1, d2, d3, d4, d5, d6⟩ := CT.out _ _ HTS.out
    go_region_held3 (fun W' => W'.cell? ⟨bk, 0, none⟩ = some (.pointer (some ⟨kb, 0, none⟩)) ∧ W'.cell? ⟨bs, 0, none⟩ = some (.slice a n cap) ∧ W'.cell? ⟨bx, 0, none⟩ = some (.int .i64 (nt : Int)) ∧ W'.cell? ⟨br, 0, none⟩ = some (.int .i64 (rq : Int)) ∧ W'.cell? ⟨kb, 0, none⟩ = some (.int .i64 (b.p.win : Int)) ∧ W'.cell? ⟨kb, 1, none⟩ = some (.int .i64 (b.depth : Int)) ∧ W'.cell? ⟨kb, 2, none⟩ = some (.int .i64 (b.p.itv : Int)) ∧ W'.cell? ⟨kb, 3, none⟩ = some (.int .i64 (b.p.zet : Int)) ∧ W'.cell? ⟨kb, 4, none⟩ = some (.int .i64 (b.cap : Int)) ∧ W'.cell? ⟨kb, 40, none⟩ = some (.pointer (some ⟨wb, 0, none⟩)) ∧ W'.cell? ⟨bb, 0, none⟩ = some (.slice s9 tn d9))
     (first | exact CT.out _ _ HTS.out | exact CT.out _ _ HTS.out.drew | exact CT.out _ _ (by assumption) | exact CT.out _ _ (TryS.drew (by assumption)))
     (first
      | (go_at_call 26; (with_reducible refine (BL.out _).mono ?_); rintro e w6 ⟨rfl, k6⟩; have h6 := (by first | exact HTS.out.next k6 | exact HTS.out.drew.next k6 : TryS w b T wb E D l rd kb row ls bk bs bx bl br bb (.slice a n cap) (.int .i64 (lq : Int)) (.int .i64 (rq : Int)) (.slice s9 tn d9) (.int .i64 (tc : Int)) K5 w6))
      | (go_at_call 59; (with_reducible refine (EN.out _ (by first | exact h6 | exact h6.drew)).mono ?_); rintro e w7 ⟨rfl, h7⟩))
    have H7 := Lib.hid h7
    clear h6 h7 k6 HTS EN c1 c2 c3 c5 d0 d1 d2 d3 d4 d5 d6 BL
    obtain ⟨ch, hch⟩ : ∃ z, chainOf (lq, rq, tl, tc) = z := ⟨_, rfl⟩
    rw [hch] at PUTB
    have HCH := Lib.hid hch
    clear hch
    obtain ⟨-, -, -, -, c5, -⟩ := H7.out.cells
    obtain ⟨-, -, c6, -⟩ := H7.out.cells2
    go_upto_if 86 with fail
    go_cut [13] from 85 to 89 (fun v13 wc => v13 = .int .i64 (ch : Int) ∧ w7 = wc)
    case first =>
     by_cases h0 : 0 < rq
     ·have j1 : decide ((0 : Int) < (rq : Int)) = true := decide_eq_true (by omega)
      have j1n : decide (0 < rq) = true := decide_eq_true h0
      have e1 : ch = tc + 1 := by rw [← HCH.out]; unfold chainOf; rw [if_pos h0]
      have htc : tc < 16 := by
       rcases PB.out.by_ with ⟨h, _⟩ | ⟨_, h⟩
       ·dsimp only at h; omega
       ·have h5 := (back_some h).2.2.2.1
        unfold tkMay at h5
        dsimp only at h5
        omega
      have e2 : (ch : Int) = (tc : Int) + 1 := by omega
      have HE := Lib.hid e2
      clear e1 e2
      go_wp2_with fail
      go_meet
      case rel => exact ⟨by rw [HE.out], rfl⟩
     ·have j1 : decide ((0 : Int) < (rq : Int)) = false := decide_eq_false (by omega)
      have j1n : decide (0 < rq) = false := decide_eq_false h0
      have e1 : ch = 0 := by rw [← HCH.out]; unfold chainOf; rw [if_neg h0]
      subst e1
      go_wp2_with fail
      go_meet
      case rel => exact ⟨rfl, rfl⟩
    case rest =>
     obtain ⟨rfl, hwd⟩ := hcut
     subst hwd
     clear c5 c6
     have hne7 := H7.out.ne
     have hkb7 := hne7.2.2.2 _ HKB.out
     dsimp only at hkb7
     have PF : Hid (∀ (w3 w4 : World) (kv : List (Nat × Obj)) (o' : Obj), Below w7.heap.size w7 w3 → (∀ p ∈ kv, w7.heap.size ≤ p.1 ∧ w3.heap[p.1]? = some p.2) → Keeps w3 w4 (fun x => x = kb) → w4.heap[kb]? = some o' →
       FS w (some (wb, l ++ addB b T succ)) rd ((kb, o') :: (bl, .cells #[.int .i64 (lq : Int)] 3 (0, 0)) :: (br, .cells #[.int .i64 (rq : Int)] 3 (0, 0)) :: (bb, .cells #[.slice s9 tn d9, .int .i64 (tc : Int)] 123 (0, 0)) :: (kv ++ K6)) w4) := Lib.hid (fun w3 w4 kv o' k hkv hk ho => by
      have hlt := lt_of_block (H7.out.has HKB.out)
      refine ((H7.out.fs.more k hkv).sub (ks' := (kb, Obj.cells row 129 (0, 0)) :: (bl, .cells #[.int .i64 (lq : Int)] 3 (0, 0)) :: (br, .cells #[.int .i64 (rq : Int)] 3 (0, 0)) :: (bb, .cells #[.slice s9 tn d9, .int .i64 (tc : Int)] 123 (0, 0)) :: (kv ++ K6)) (fun p hp => ?_)).turn hk ho (fun p hp => ?_)
      ·simp only [List.mem_cons, List.mem_append] at hp ⊢
       rcases hp with h | h | h | h | h | h
       ·exact .inr (.inr (.inr (.inr (by rw [h]; exact HKB.out))))
       ·exact .inr (.inl h)
       ·exact .inr (.inr (.inl h))
       ·exact .inr (.inr (.inr (.inl h)))
       ·exact .inl h
       ·exact .inr (.inr (.inr (.inr (H56.out p (List.mem_cons_of_mem _ h)))))
      ·simp only [List.mem_cons, List.mem_append] at hp
       rcases hp with rfl | rfl | rfl | h | h
       ·exact fun e => hkb7.1 e.symm
       ·exact fun e => hkb7.2.1 e.symm
       ·exact fun e => hkb7.2.2 e.symm
       ·have := (hkv p h).1
        dsimp only at hlt
        omega
       ·exact H6N.out p h)
     have LV7 : Hid (LV w7 a succ) := Lib.hid (HAS.out w7 H7.out.fs.below (fun p hp => H7.out.has (HKK.out p (List.mem_append_right _ hp))))
     have HPT : Hid (∀ (w3 : World), Below w7.heap.size w7 w3 → ∀ (s3 : Option Addr) (d3 : Nat), Calls Tryz.prog 69 #[.pointer (some ⟨kb, 5, none⟩), .slice s3 n d3, .int .i64 (ch : Int)] w3 fun e w' => e = .returned (.tuple #[]) ∧ Keeps w3 w' (fun x => x = kb) ∧ w'.heap.size = w3.heap.size ∧ w'.heap[kb]? = some (.cells (putRow row 5 T.length (.slice s3 n d3) (ch : Int)) 129 (0, 0))) := Lib.hid (fun w3 k s3 d3 =>
      rput_any w3 kb 5 row _ ((k.block _ (lt_of_block (H7.out.has HKB.out))).trans (H7.out.has HKB.out)) T ls HR.out.ring (by rw [HNT.out]; omega) s3 n d3 (ch : Int))
     obtain ⟨c1, c2, -⟩ := H7.out.cells
     have c1d : w7.drew.cell? ⟨bk, 0, none⟩ = some (.pointer (some ⟨kb, 0, none⟩)) := c1
     have c2d : w7.drew.cell? ⟨bs, 0, none⟩ = some (.slice a n cap) := c2
     obtain ⟨j0, hj, hj0, hj1, hj2⟩ := info_parts Tryz.infoU32
     have C3 : Hid (0 + n ≤ maxLen) := Lib.hid (by simp only [maxLen]; omega)
     have C4 : Hid ((0 + n) * 4 ≤ 140737488355328) := Lib.hid (by omega)
     have SB32 : Hid (∀ x ∈ succ, x < 4294967296) := Lib.hid (fun x hx => Nat.lt_trans (HS.out.2 x hx) (by decide))
     go_upto_region 24 with fail
     go_cut [] from 90 to 96 (fun wc => ∃ kv s3 d3, n ≤ d3 ∧ Stands kv s3 succ ∧ (∀ p ∈ kv, w7.heap.size ≤ p.1) ∧ FS w (some (wb, l ++ addB b T succ)) rd ((kb, .cells (putRow row 5 T.length (.slice s3 n d3) (ch : Int)) 129 (0, 0)) :: (bl, .cells #[.int .i64 (lq : Int)] 3 (0, 0)) :: (br, .cells #[.int .i64 (rq : Int)] 3 (0, 0)) :: (bb, .cells #[.slice s9 tn d9, .int .i64 (tc : Int)] 123 (0, 0)) :: (kv ++ K6)) wc)
     case first =>
      go_region_law (first
       | (refine wp_append_lv _ (by rfl) (.const (.slice none 0 0)) (.tmp 93) 34 rfl w7.heap.size 77 j0 (.int .u32 0) 4 Tryz.underlying34 hj hj0 hj1 hj2 rfl (.slice none 0 0) 0 [] rfl (World.ownsRow_nil _ _ _ _) a n cap succ rfl HN.out (LV7.out.below (Below.drew (Below.refl _ _))) C3.out C4.out (Nat.le_refl _) ?_; intro v3 w3 own3 hg3 hw3; have k3 : Below w7.heap.size w7 w3 := (Below.drew (Below.refl _ _)).grown hg3 (Nat.le_refl _) (fun k hk => by cases hk); have c1w : w3.cell? ⟨bk, 0, none⟩ = some (.pointer (some ⟨kb, 0, none⟩)) := (k3.cell (World.block_lt_of_cell? _ _ c1)).trans c1; rw [Nat.zero_add, List.nil_append, ← HN.out] at own3; obtain ⟨kv, s3, d3, rfl, hd3, hst3, hkv⟩ := own_stands own3 (by rw [HN.out]; exact hs9) SB32.out; rw [HN.out] at hd3 ⊢; clear own3 hg3 hw3)
       | (go_simp; go_at_call 69; (with_reducible refine (HPT.out _ k3 s3 d3).mono ?_); rintro e w4 ⟨rfl, hk4, -, hr4⟩; dsimp only))
      all_goals
       go_wp2_with fail
       refine Met.intro ?_
       apply_assumption
       (repeat apply Exists.intro)
       refine ⟨?_, rfl⟩
       exact ⟨kv, s3, d3, hd3, hst3, fun p hp => (hkv p hp).1, PF.out w3 w4 kv _ k3 hkv hk4 hr4⟩
     case rest =>
      obtain ⟨kv, s3, d3, hd3, hst3, hkv, hF8⟩ := hcut
      have F8 := Lib.hid hF8
      have hlt7 := lt_of_block (H7.out.has HKB.out)
      have hbr7 := lt_of_block (H7.out.fs.row (List.mem_cons_of_mem _ (List.mem_cons_self ..)))
      dsimp only at hlt7
      have hnek : ∀ p ∈ (bl, Obj.cells #[.int .i64 (lq : Int)] 3 (0, 0)) :: (br, .cells #[.int .i64 (rq : Int)] 3 (0, 0)) :: (bb, .cells #[.slice s9 tn d9, .int .i64 (tc : Int)] 123 (0, 0)) :: (kv ++ K6), p.1 ≠ kb := fun p hp => by
       simp only [List.mem_cons, List.mem_append] at hp
       rcases hp with rfl | rfl | rfl | h | h
       ·exact fun e => hkb7.1 e.symm
       ·exact fun e => hkb7.2.1 e.symm
       ·exact fun e => hkb7.2.2 e.symm
       ·have := hkv p h
        omega
       ·exact H6N.out p h
      have HNK := Lib.hid hnek
      have rkb := F8.out.row (List.mem_cons_self ..)
      have rbl := F8.out.row (List.mem_cons_of_mem _ (List.mem_cons_self ..))
      have rbr := F8.out.row (List.mem_cons_of_mem _ (List.mem_cons_of_mem _ (List.mem_cons_self ..)))
      have rin : ∀ p ∈ K6, wc.heap[p.1]? = some p.2 := fun p hp => F8.out.row (b := p.1) (o := p.2) (List.mem_cons_of_mem _ (List.mem_cons_of_mem _ (List.mem_cons_of_mem _ (List.mem_cons_of_mem _ (List.mem_append_right _ hp)))))
      have hz43 := HR.out.size
      have c1 : wc.cell? ⟨bk, 0, none⟩ = some (.pointer (some ⟨kb, 0, none⟩)) := by rw [cell_of_row _ _ _ _ _ _ (rin _ H6K.out.1)]; rfl
      have c2 : wc.cell? ⟨bs, 0, none⟩ = some (.slice a n cap) := by rw [cell_of_row _ _ _ _ _ _ (rin _ H6K.out.2.1)]; rfl
      have c3 : wc.cell? ⟨kb, 41, none⟩ = some (.int .i64 (E : Int)) := by
       rw [cell_of_row _ _ _ _ _ _ rkb, putRow_get _ (by omega), if_neg (by omega), if_neg (by omega), if_neg (by omega)]
       exact HR.out.e
      have f3 : wc.frozen? ⟨kb, 41, none⟩ = false := frozen_of_row wc _ _ _ _ rkb
      have c1d : wc.drew.cell? ⟨bk, 0, none⟩ = some (.pointer (some ⟨kb, 0, none⟩)) := c1
      have c2d : wc.drew.cell? ⟨bs, 0, none⟩ = some (.slice a n cap) := c2
      have c3d : wc.drew.cell? ⟨kb, 41, none⟩ = some (.int .i64 (E : Int)) := c3
      have f3d : wc.drew.frozen? ⟨kb, 41, none⟩ = false := f3
      clear hF8 hnek rin PF LV7 HPT SB32 C3 C4
      go_upto_region 25 with fail
      go_big_region
      obtain ⟨row9, hrow9⟩ : ∃ z, (putRow row 5 T.length (.slice s3 n d3) (ch : Int)).setIfInBounds 41 (.int .i64 ((E : Int) + (n : Int))) = z := ⟨_, rfl⟩
      have F9 : Hid (FS w (some (wb, l ++ addB b T succ)) rd ((kb, .cells row9 129 (0, 0)) :: (bl, .cells #[.int .i64 (lq : Int)] 3 (0, 0)) :: (br, .cells #[.int .i64 (rq : Int)] 3 (0, 0)) :: (bb, .cells #[.slice s9 tn d9, .int .i64 (tc : Int)] 123 (0, 0)) :: (kv ++ K6)) (World.drew (World.setCell wc ⟨kb, 41, none⟩ (.int .i64 ((E : Int) + (n : Int)))))) := Lib.hid (by
       rw [← hrow9]
       exact (F8.out.store (j := 41) (.int .i64 ((E : Int) + (n : Int))) HNK.out).drew)
      have HR9 := Lib.hid hrow9
      generalize World.drew (World.setCell wc _ _) = W9 at F9 ⊢
      clear hrow9 F8 rkb rbl rbr c1 c2 c3 f3 c1d c2d c3d f3d
      have hnb : ∀ p ∈ (kb, Obj.cells row9 129 (0, 0)) :: (bl, .cells #[.int .i64 (lq : Int)] 3 (0, 0)) :: (bb, .cells #[.slice s9 tn d9, .int .i64 (tc : Int)] 123 (0, 0)) :: (kv ++ K6), p.1 ≠ br := fun p hp => by
       simp only [List.mem_cons, List.mem_append] at hp
       rcases hp with rfl | rfl | rfl | h | h
       ·exact hkb7.2.1
       ·exact hne7.1
       ·exact fun e => hne7.2.2.1 e.symm
       ·have := hkv p h
        omega
       ·exact (hne7.2.2.2 p (H56.out p (List.mem_cons_of_mem _ h))).2.1
      have HNBR := Lib.hid hnb
      have rbl := F9.out.row (List.mem_cons_of_mem _ (List.mem_cons_self ..))
      have rbr := F9.out.row (List.mem_cons_of_mem _ (List.mem_cons_of_mem _ (List.mem_cons_self ..)))
      have c1 : W9.cell? ⟨bl, 0, none⟩ = some (.int .i64 (lq : Int)) := by rw [cell_of_row _ _ _ _ _ _ rbl]; rfl
      have c2 : W9.cell? ⟨br, 0, none⟩ = some (.int .i64 (rq : Int)) := by rw [cell_of_row _ _ _ _ _ _ rbr]; rfl
      have f2 : W9.frozen? ⟨br, 0, none⟩ = false := frozen_of_row W9 _ _ _ _ rbr
      have c1d : W9.drew.cell? ⟨bl, 0, none⟩ = some (.int .i64 (lq : Int)) := c1
      have c2d : W9.drew.cell? ⟨br, 0, none⟩ = some (.int .i64 (rq : Int)) := c2
      have f2d : W9.drew.frozen? ⟨br, 0, none⟩ = false := f2
      have hn1 := hne7.1
      clear hnb rbl rbr
      go_upto_region 26 with fail
      go_big_region
      have F10 : Hid (FS w (some (wb, l ++ addB b T succ)) rd ((br, .cells #[.int .i64 (rq : Int)] 3 (0, 0)) :: (kb, Obj.cells row9 129 (0, 0)) :: (bl, .cells #[.int .i64 (lq : Int)] 3 (0, 0)) :: (bb, .cells #[.slice s9 tn d9, .int .i64 (tc : Int)] 123 (0, 0)) :: (kv ++ K6)) (World.drew (World.setCell W9 ⟨br, 0, none⟩ (.int .i64 (rq : Int))))) := Lib.hid (((show FS w (some (wb, l ++ addB b T succ)) rd ((br, .cells #[.int .i64 (rq : Int)] 3 (0, 0)) :: (kb, Obj.cells row9 129 (0, 0)) :: (bl, .cells #[.int .i64 (lq : Int)] 3 (0, 0)) :: (bb, .cells #[.slice s9 tn d9, .int .i64 (tc : Int)] 123 (0, 0)) :: (kv ++ K6)) W9 from F9.out.sub (fun p hp => by
       simp only [List.mem_cons] at hp ⊢
       rcases hp with h | h | h | h | h
       ·exact .inr (.inr (.inl h))
       ·exact .inl h
       ·exact .inr (.inl h)
       ·exact .inr (.inr (.inr (.inl h)))
       ·exact .inr (.inr (.inr (.inr h))))).store (b := br) (row := #[.int .i64 (rq : Int)]) (T := 3) (j := 0) (.int .i64 (rq : Int)) HNBR.out).drew)
      generalize World.drew (World.setCell W9 _ _) = W10 at F10 ⊢
      have q0 : W10.cell? ⟨br, 0, none⟩ = some (.int .i64 (rq : Int)) := by rw [cell_of_row _ _ _ _ _ _ (F10.out.row (List.mem_cons_self ..))]; rfl
      clear c1 c2 f2 c1d c2d f2d F9
      go_wp2_with fail
      refine bodyPost_ret (v := .tuple #[.int .i64 (rq : Int), .int .i64 (lq : Int), .int .i64 0]) (by simp [results, Tryz.results37, go_sem, q0]) rfl ⟨by rw [HQ.out], kv ++ ls, ⟨row9, F10.out.sub (fun p hp => ?_), fun p hp => ?_, ?_⟩, fun p hp => ?_⟩
      ·simp only [List.mem_cons, List.mem_append] at hp ⊢
       rcases hp with h | (h | h) | h
       ·exact .inr (.inl h)
       ·exact .inr (.inr (.inr (.inr (.inl h))))
       ·exact .inr (.inr (.inr (.inr (.inr (H6K.out.2.2 p (List.mem_append_left _ h))))))
       ·exact .inr (.inr (.inr (.inr (.inr (H6K.out.2.2 p (List.mem_append_right _ h))))))
      ·rw [List.append_assoc] at hp
       rcases List.mem_append.1 hp with h | h
       ·have := hkv p h
        omega
       ·exact HNE.out p h
      ·have h1 := HR.out.put (succ, ch) s3 d3 (E + n) (by dsimp only; rw [HN.out]; exact hd3) (hst3.more (ls' := kv ++ ls) (fun p hp => List.mem_append_left _ hp)) (fun p hp => List.mem_append_right _ hp)
       rw [PUTB.out, HN.out]
       dsimp only at h1
       rw [HN.out, show ((E + n : Nat) : Int) = (E : Int) + (n : Int) by omega, HR9.out] at h1
       exact h1
      ·rcases List.mem_append.1 hp with h | h
       ·have h1 := hkv p h
        have h2 := lt_of_block (H7.out.has (H56.out _ (List.mem_cons_of_mem _ H6K.out.1)))
        have h3 := HBK.out
        dsimp only at h2
        exact .inr (by omega)
       ·exact .inl h
end Go.Proofs.YtflnpcgnenhogaaGreatDoor.ls
namespace Go.Proofs.YtflnpcgnenhogaaGreatDoor.ls
open Go.RowKit Go.Proofs.YtflnpcgnenhogaaGreatDoor.own Go.Proofs.YtflnpcgnenhogaaGreatDoor.bit

section
variable {w W W' : World} {b : Bp} {T : List Tk} {wb E D : Nat} {l : Bits} {rd : Option (Nat × ByteArray × Nat)} {kb : Nat} {ls ks : List (Nat × Obj)}
theorem KS.next (h : KS w b T wb E D l rd kb ls ks W) (k : Below W.heap.size W W') : KS w b T wb E D l rd kb ls ks W' := by
 obtain ⟨row, h1, h2, h3⟩ := h
 exact ⟨row, h1.next k, h2, h3⟩
theorem KS.below (h : KS w b T wb E D l rd kb ls ks W) : Below w.heap.size w W := by
 obtain ⟨row, h1, _⟩ := h
 exact h1.below
theorem KS.has (h : KS w b T wb E D l rd kb ls ks W) {p : Nat × Obj} (hp : p ∈ ks) : W.heap[p.1]? = some p.2 := by
 obtain ⟨row, h1, _⟩ := h
 exact h1.row (b := p.1) (o := p.2) (List.mem_cons_of_mem _ (List.mem_append_right _ hp))
theorem KS.cells (h : KS w b T wb E D l rd kb ls ks W) : W.cell? ⟨kb, 40, none⟩ = some (.pointer (some ⟨wb, 0, none⟩)) ∧ W.cell? ⟨kb, 42, none⟩ = some (.int .i64 (D : Int)) := by
 obtain ⟨row, h1, _, h3⟩ := h
 have r := h1.row (List.mem_cons_self ..)
 exact ⟨by rw [cell_of_row _ _ _ _ _ _ r]; exact h3.w, by rw [cell_of_row _ _ _ _ _ _ r]; exact h3.d⟩
theorem KS.len (h : KS w b T wb E D l rd kb ls ks W) : Calls Tryz.prog 61 #[.pointer (some ⟨wb, 0, none⟩)] W fun e w' => e = .returned (.int .i64 (l.length : Int)) ∧ W = w' := by
 obtain ⟨row, h1, _⟩ := h
 exact h1.len
theorem KS.wtext (h : KS w b T wb E D l rd kb ls ks W) : Calls Tryz.prog 60 #[.pointer (some ⟨wb, 0, none⟩)] W fun e w' => e = .returned (.tuple #[.string (txt (packN l)), .int .i64 0]) ∧ W = w' := by
 obtain ⟨row, h1, _⟩ := h
 exact h1.text
set_option maxRecDepth 100000 in
theorem KS.text (h : KS w b T wb E D l rd kb ls ks W) : Calls Tryz.prog 43 #[.pointer (some ⟨kb, 0, none⟩)] W fun e w' => e = .returned (.tuple #[.string (txt (packN l)), .int .i64 0]) ∧ KS w b T wb E D l rd kb ls ks w' := by
 have H := Lib.hid h
 have TX := Lib.hid h.wtext
 obtain ⟨c0, -⟩ := h.cells
 obtain ⟨t, ht⟩ : ∃ t, txt (packN l) = t := ⟨_, rfl⟩
 rw [ht] at TX ⊢
 clear h ht
 go_enter Tryz.func43, Tryz.ntmps43
 go_wp2_with fail
 with_reducible refine TX.out.mono ?_
 rintro e w2 ⟨rfl, rfl⟩
 go_wp2_with fail
 go_ret2
 exact ⟨rfl, H.out⟩
set_option maxRecDepth 100000 in
theorem KS.bits (h : KS w b T wb E D l rd kb ls ks W) (hD : D + l.length ≤ 9223372036854775807) : Calls Tryz.prog 40 #[.pointer (some ⟨kb, 0, none⟩)] W fun e w' => e = .returned (.int .i64 ((D + l.length : Nat) : Int)) ∧ KS w b T wb E D l rd kb ls ks w' := by
 have H := Lib.hid h
 have LE := Lib.hid (fun W' (k : Below W.heap.size W W') => (h.next k).len)
 obtain ⟨c0, c1⟩ := h.cells
 obtain ⟨n, hn⟩ : ∃ n, l.length = n := ⟨_, rfl⟩
 rw [hn] at LE hD ⊢
 obtain ⟨m, hm⟩ : ∃ m, D + n = m := ⟨_, rfl⟩
 have e1 : IntKind.i64.wrap ((D : Int) + (n : Int)) = (m : Int) := by rw [IntWalk.i64_in _ (by omega)]; omega
 rw [hm]
 clear h hn hm
 go_enter Tryz.func40, Tryz.ntmps40
 go_upto_region 3 with fail
 have K0 := Below.refl W.heap.size W
 have CF : Hid (∀ W', Below W.heap.size W W' → W'.cell? ⟨kb, 40, none⟩ = some (.pointer (some ⟨wb, 0, none⟩)) ∧ W'.cell? ⟨kb, 42, none⟩ = some (.int .i64 (D : Int)) ∧ Below W.heap.size W W') := Lib.hid (fun W' k => ⟨(H.out.next k).cells.1, (H.out.next k).cells.2, k⟩)
 go_region_held3 (fun W' => W'.cell? ⟨kb, 40, none⟩ = some (.pointer (some ⟨wb, 0, none⟩)) ∧ W'.cell? ⟨kb, 42, none⟩ = some (.int .i64 (D : Int)) ∧ Below W.heap.size W W')
  (first | exact CF.out _ (by assumption) | exact CF.out _ (Below.drew (by assumption)))
  (first | (go_at_call 61; (with_reducible refine (LE.out _ (by first | assumption | exact Below.drew (by assumption))).mono ?_); rintro e w5 ⟨rfl, rfl⟩))
 go_wp2_with fail
 go_ret
 exact ⟨rfl, H.out.next ⟨rfl, rfl, rfl, Nat.le_refl _, fun _ _ => rfl⟩⟩
end
/-- a new packer -/
def NewP (w : World) (b : Bp) (ks : List (Nat × Obj)) (e : Ending) (w' : World) : Prop := ∃ kb wb, e = .returned (.tuple #[.pointer (some ⟨kb, 0, none⟩), .int .i64 0]) ∧ KS w b [] wb 0 0 [] none kb [] ks w'
set_option maxRecDepth 100000 in
set_option maxHeartbeats 3200000 in
theorem bnew_yes {w W : World} {ks : List (Nat × Obj)} (b : Bp) (hb : BpOk (b.p.win : Int) (b.depth : Int) (b.p.itv : Int) (b.p.zet : Int) (b.cap : Int)) (h : FS w none none ks W) :
  Calls Tryz.prog 36 #[bpV (b.p.win : Int) (b.depth : Int) (b.p.itv : Int) (b.p.zet : Int) (b.cap : Int)] W (NewP w b ks) := by
 have CK := Lib.hid (fun W' => bcheck_any (b.p.win : Int) (b.depth : Int) (b.p.itv : Int) (b.p.zet : Int) (b.cap : Int) W')
 rw [if_pos hb] at CK
 have H := Lib.hid h
 obtain ⟨wn, hwn⟩ : ∃ z, b.p.win = z := ⟨_, rfl⟩
 obtain ⟨dp, hdp⟩ : ∃ z, b.depth = z := ⟨_, rfl⟩
 obtain ⟨iv, hiv⟩ : ∃ z, b.p.itv = z := ⟨_, rfl⟩
 obtain ⟨zt, hzt⟩ : ∃ z, b.p.zet = z := ⟨_, rfl⟩
 obtain ⟨cp, hcp⟩ : ∃ z, b.cap = z := ⟨_, rfl⟩
 have HB := Lib.hid (And.intro hwn (And.intro hdp (And.intro hiv (And.intro hzt hcp))))
 rw [hwn, hdp, hiv, hzt, hcp] at CK ⊢
 clear hwn hdp hiv hzt hcp hb h
 unfold bpV at CK ⊢
 go_enter Tryz.func36, Tryz.ntmps36
 go_wp2_with fail
 have kb : Below W.heap.size W (W.alloc (.cells #[.int .i64 (wn : Int), .int .i64 (dp : Int), .int .i64 (iv : Int), .int .i64 (zt : Int), .int .i64 (cp : Int)] 61)) := (by repeat (first | exact Below.refl _ _ | refine below_drewN ?_ _ | refine Below.setCell ?_ (by simp; try omega) _ | refine Below.alloc ?_ (by simp; try omega) _))
 have r1 := heap_alloc_new W (.cells #[.int .i64 (wn : Int), .int .i64 (dp : Int), .int .i64 (iv : Int), .int .i64 (zt : Int), .int .i64 (cp : Int)] 61)
 with_reducible refine (CK.out _).mono ?_
 rintro e w2 ⟨rfl, k2⟩
 have F2 := Lib.hid ((H.out.add #[.int .i64 (wn : Int), .int .i64 (dp : Int), .int .i64 (iv : Int), .int .i64 (zt : Int), .int .i64 (cp : Int)] 61).next k2)
 obtain ⟨pb, hpb⟩ : ∃ z, W.heap.size = z := ⟨_, rfl⟩
 rw [hpb] at F2 ⊢
 clear r1 kb k2 hpb
 have CF : Hid (∀ W' wr, FS w wr none ((pb, .cells #[.int .i64 (wn : Int), .int .i64 (dp : Int), .int .i64 (iv : Int), .int .i64 (zt : Int), .int .i64 (cp : Int)] 61 (0, 0)) :: ks) W' → W'.cell? ⟨pb, 0, none⟩ = some (.int .i64 (wn : Int)) ∧ W'.cell? ⟨pb, 1, none⟩ = some (.int .i64 (dp : Int)) ∧ W'.cell? ⟨pb, 2, none⟩ = some (.int .i64 (iv : Int)) ∧ W'.cell? ⟨pb, 3, none⟩ = some (.int .i64 (zt : Int)) ∧ W'.cell? ⟨pb, 4, none⟩ = some (.int .i64 (cp : Int))) := Lib.hid (fun W' wr h => by
  have hr := h.row (List.mem_cons_self ..)
  exact ⟨by rw [cell_of_row _ _ _ _ _ _ hr]; rfl, by rw [cell_of_row _ _ _ _ _ _ hr]; rfl, by rw [cell_of_row _ _ _ _ _ _ hr]; rfl, by rw [cell_of_row _ _ _ _ _ _ hr]; rfl, by rw [cell_of_row _ _ _ _ _ _ hr]; rfl⟩)
 go_upto_region 4 with fail
 obtain ⟨p0, p1, p2, p3, p4⟩ := CF.out _ _ F2.out.drew
 go_region_law (first
  | (go_simp; go_at_call 58; (with_reducible refine (FS.new F2.out.drew).mono ?_); rintro e w3 ⟨wb, rfl, h3⟩; obtain ⟨q0, q1, q2, q3, q4⟩ := CF.out _ _ h3; dsimp only))
 all_goals
  have H3 := Lib.hid h3
  obtain ⟨e1, e2, e3, e4, e5⟩ := HB.out
  clear q0 q1 q2 q3 q4 p0 p1 p2 p3 p4 h3 CF F2
  have FIN : Hid (∀ row : Array Value, row = #[.int .i64 (wn : Int), .int .i64 (dp : Int), .int .i64 (iv : Int), .int .i64 (zt : Int), .int .i64 (cp : Int), .slice none 0 0, .int .i64 0, .slice none 0 0, .int .i64 0, .slice none 0 0, .int .i64 0, .slice none 0 0, .int .i64 0, .slice none 0 0, .int .i64 0, .slice none 0 0, .int .i64 0, .slice none 0 0, .int .i64 0, .slice none 0 0, .int .i64 0, .slice none 0 0, .int .i64 0, .slice none 0 0, .int .i64 0, .slice none 0 0, .int .i64 0, .slice none 0 0, .int .i64 0, .slice none 0 0, .int .i64 0, .slice none 0 0, .int .i64 0, .slice none 0 0, .int .i64 0, .slice none 0 0, .int .i64 0, .slice none 0 0, .int .i64 0, .int .i64 0, .pointer (some ⟨wb, 0, none⟩), .int .i64 0, .int .i64 0] → KS w b [] wb 0 0 [] none w3.heap.size [] ks (w3.alloc (.cells row 129))) := Lib.hid (fun row hrow => by
   refine ⟨row, (H3.out.add row 129).sub (fun p hp => ?_), fun p hp => ?_, ?_⟩
   ·simp only [List.mem_cons, List.nil_append] at hp ⊢
    rcases hp with h | h
    ·exact .inl h
    ·exact .inr (.inr h)
   ·have := lt_of_block (H3.out.row (b := p.1) (o := p.2) (List.mem_cons_of_mem _ (by simpa using hp)))
    omega
   ·subst hrow
    refine ⟨rfl, by rw [e1]; rfl, by rw [e2]; rfl, by rw [e3]; rfl, by rw [e4]; rfl, by rw [e5]; rfl, ⟨(show (5 + 35 : Nat) ≤ 43 from by decide), rfl, fun k hk => ⟨none, 0, 0, 0, ?_, ?_⟩, fun j hj => by cases hj⟩, rfl, rfl, rfl⟩
    ·have : k = 0 ∨ k = 1 ∨ k = 2 ∨ k = 3 ∨ k = 4 ∨ k = 5 ∨ k = 6 ∨ k = 7 ∨ k = 8 ∨ k = 9 ∨ k = 10 ∨ k = 11 ∨ k = 12 ∨ k = 13 ∨ k = 14 ∨ k = 15 ∨ k = 16 := by omega
     rcases this with rfl | rfl | rfl | rfl | rfl | rfl | rfl | rfl | rfl | rfl | rfl | rfl | rfl | rfl | rfl | rfl | rfl <;> rfl
    ·have : k = 0 ∨ k = 1 ∨ k = 2 ∨ k = 3 ∨ k = 4 ∨ k = 5 ∨ k = 6 ∨ k = 7 ∨ k = 8 ∨ k = 9 ∨ k = 10 ∨ k = 11 ∨ k = 12 ∨ k = 13 ∨ k = 14 ∨ k = 15 ∨ k = 16 := by omega
     rcases this with rfl | rfl | rfl | rfl | rfl | rfl | rfl | rfl | rfl | rfl | rfl | rfl | rfl | rfl | rfl | rfl | rfl <;> rfl)
  go_wp2_with fail
  go_ret2
  exact ⟨w3.heap.size, wb, rfl, FIN.out _ rfl⟩
end Go.Proofs.YtflnpcgnenhogaaGreatDoor.ls
namespace Go.Proofs.YtflnpcgnenhogaaGreatDoor.ls
open Go.RowKit Go.Proofs.YtflnpcgnenhogaaGreatDoor.own Go.Proofs.YtflnpcgnenhogaaGreatDoor.bit

/-! ### the plain law -/
/-! ### rows of lists -/
def GRow (ks : List (Nat × Obj)) (V : List Value) (G : List (List Nat)) : Prop := V.length = G.length ∧ ∀ i (h : i < G.length), ∃ s d, V[i]? = some (.slice s G[i].length d) ∧ G[i].length ≤ d ∧ Stands ks s G[i]
theorem GRow.nil (ks : List (Nat × Obj)) : GRow ks [] [] := ⟨rfl, fun i h => by cases h⟩
theorem GRow.more {ks ks' : List (Nat × Obj)} {V : List Value} {G : List (List Nat)} (h : GRow ks V G) (hs : ∀ p ∈ ks, p ∈ ks') : GRow ks' V G := ⟨h.1, fun i hi => by
 obtain ⟨s, d, h1, h2, h3⟩ := h.2 i hi
 exact ⟨s, d, h1, h2, h3.more hs⟩⟩
theorem GRow.snoc {ks : List (Nat × Obj)} {V : List Value} {G : List (List Nat)} (h : GRow ks V G) (l : List Nat) (s : Option Addr) (d : Nat) (hd : l.length ≤ d) (hs : Stands ks s l) : GRow ks (V ++ [.slice s l.length d]) (G ++ [l]) := by
 refine ⟨by rw [List.length_append, List.length_append, h.1]; rfl, fun i hi => ?_⟩
 rw [List.length_append, List.length_singleton] at hi
 by_cases hlt : i < G.length
 ·obtain ⟨s', d', h1, h2, h3⟩ := h.2 i hlt
  refine ⟨s', d', ?_, ?_, ?_⟩
  ·rw [List.getElem?_append_left (by rw [h.1]; exact hlt), List.getElem_append_left hlt]; exact h1
  ·rw [List.getElem_append_left hlt]; exact h2
  ·rw [List.getElem_append_left hlt]; exact h3
 ·obtain rfl : i = G.length := by omega
  refine ⟨s, d, ?_, ?_, ?_⟩
  ·rw [List.getElem?_append_right (by rw [h.1]; exact Nat.le_refl _), h.1, Nat.sub_self, List.getElem_append_right (Nat.le_refl _)]; simp
  ·rw [List.getElem_append_right (Nat.le_refl _)]; simpa using hd
  ·rw [List.getElem_append_right (Nat.le_refl _)]; simpa using hs
theorem GRow.lls {ks : List (Nat × Obj)} {V : List Value} {G : List (List Nat)} (h : GRow ks V G) {W : World} {base : Nat} {a : Option Addr} {d : Nat} (ho : W.ownsRow base 34 1 (.slice a G.length d) G.length V) (hl : G.length ≤ 4611686018427387903) (hk : ∀ p ∈ ks, W.heap[p.1]? = some p.2) : LLs W a G := by
 refine ⟨hl, fun i hi => ?_⟩
 obtain ⟨s, d', h1, h2, h3⟩ := h.2 i hi
 rcases ho.2 with ⟨_, h0⟩ | ⟨g, cap, cur, hv, _, hg, _, _, _, _⟩
 ·omega
 ·injection hv with e1 e2 e3
  subst e1 e3
  refine ⟨g, 0, s, d', rfl, lt_of_block hg, ?_, h2, h3 W hk⟩
  rw [Nat.zero_add, ho.cellAt i (by omega)]
  exact h1

/-! ### the lists so far, and one that grows -/
def ML (w0 : World) (ks : List (Nat × Obj)) (V : List Value) (v : Value) (L : List Nat) (u : Value) (W : World) : Prop :=
 LG 34 1 w0 ks V.length V v W ∧ W.ownsRow w0.heap.size 77 1 u L.length (u32V L) ∧ (∀ g, v.ownBlock = some g → u.ownBlock ≠ some g) ∧ ∀ p ∈ ks, some p.1 ≠ u.ownBlock
theorem Tryz.infoU32s : (Tryz.prog.info? 34).map (fun i => (i.zero, i.size, i.bytes)) = some (some (.slice none 0 0), 1, 24) := by kernel_rfl
end Go.Proofs.YtflnpcgnenhogaaGreatDoor.ls
namespace Go.Proofs.YtflnpcgnenhogaaGreatDoor.ls
open Go.RowKit Go.Proofs.YtflnpcgnenhogaaGreatDoor.own Go.Proofs.YtflnpcgnenhogaaGreatDoor.bit

theorem sum_app (a b : List Nat) : sum (a ++ b) = sum a + sum b := by
 induction a with
 | nil => show sum b = 0 + sum b; omega
 | cons x a ih => show x + sum (a ++ b) = x + sum a + sum b; rw [ih]; omega
theorem edges_take_le (G : List (List Nat)) (i : Nat) : edges (G.take i) ≤ edges G := by
 have e : edges G = edges (G.take i) + edges (G.drop i) := by
  unfold edges
  rw [← sum_app, ← List.map_append, List.take_append_drop]
 omega
set_option maxRecDepth 100000 in
set_option maxHeartbeats 3200000 in
theorem graph_yes (w : World) (a : Option Addr) (G : List (List Nat)) (cap : Nat) (hA : LLs w a G) (hn : G.length ≤ 65536) (hr : ∀ l ∈ G, Ris l) (hv : ∀ l ∈ G, ∀ v ∈ l, v < G.length) (hE : edges G ≤ 1048576) :
  Calls Tryz.prog 62 #[.slice a G.length cap] w fun e w' => e = .returned (.bool true) ∧ w = w' := by
 have HA := Lib.hid hA
 have HR := Lib.hid hr
 have HV := Lib.hid hv
 have HE := Lib.hid (fun i => Nat.le_trans (edges_take_le G i) hE)
 obtain ⟨n, hnn⟩ : ∃ n, G.length = n := ⟨_, rfl⟩
 have HN := Lib.hid hnn
 rw [hnn] at hn HV ⊢
 clear hA hr hv hnn hE
 go_enter Tryz.func62, Tryz.ntmps62
 go_wp2_with fail
 go_loopw [3, 10] (fun v3 v10 wr => ∃ i : Nat, v10 = .int .i64 (i : Int) ∧ i ≤ n ∧ v3 = .int .i64 (edges (G.take i) : Int) ∧ w = wr) (fun _ v10 _ => n - (intOf v10).toNat)
 case atStart => exact ⟨0, rfl, Nat.zero_le _, by rw [List.take_zero]; rfl, rfl⟩
 case round =>
  obtain ⟨i, rfl, hi, rfl, rfl⟩ := hrel
  have he9 := HE.out i
  obtain ⟨E, hEE⟩ : ∃ E, edges (G.take i) = E := ⟨_, rfl⟩
  have HEE := Lib.hid hEE
  rw [hEE] at he9 ⊢
  clear hEE
  by_cases hlt : i < n
  ·have hiG : i < G.length := by rw [HN.out]; exact hlt
   obtain ⟨g, o, s, d, rfl, hg, hc, hd, hs⟩ := HA.out.2 i hiG
   have hrl := HR.out _ (List.getElem_mem hiG)
   have hvl := HV.out _ (List.getElem_mem hiG)
   obtain ⟨l, hl⟩ : ∃ l, G[i] = l := ⟨_, rfl⟩
   have ES : Hid (edges (G.take (i + 1)) = E + l.length) := Lib.hid (by rw [List.take_succ_eq_append_getElem hiG, edges_snoc, HEE.out, hl])
   rw [hl] at hc hd hs hrl hvl
   have HRL := Lib.hid ((ris_iff l).1 hrl)
   have HVL := Lib.hid hvl
   have HS := Lib.hid hs
   have hm9 := hrl.len
   obtain ⟨m, hm⟩ : ∃ m, l.length = m := ⟨_, rfl⟩
   have HM := Lib.hid hm
   rw [hm] at hc hd hm9 ES
   have i1 : decide ((i : Int) < (n : Int)) = true := decide_eq_true (by omega)
   clear hl hm hs hrl hvl
   go_wp2_with fail
   go_loopw [20] (fun v20 wr => ∃ k : Nat, v20 = .int .i64 (k : Int) ∧ k ≤ m ∧ w = wr) (fun v20 _ => m - (intOf v20).toNat)
   case atStart => exact ⟨0, rfl, Nat.zero_le _, rfl⟩
   case round =>
    obtain ⟨k, rfl, hk, rfl⟩ := hrel
    by_cases hkt : k < m
    ·have hkl : k < l.length := by rw [HM.out]; exact hkt
     obtain ⟨g6, o6, rfl, hg6, hc6, hv6⟩ := HS.out.2 k hkl
     have hvn := HVL.out _ (List.getElem_mem hkl)
     have hrk := HRL.out k hkl
     obtain ⟨v, hv⟩ : ∃ v, l[k] = v := ⟨_, rfl⟩
     rw [hv] at hc6 hv6 hvn hrk
     have k1 : decide ((k : Int) < (m : Int)) = true := decide_eq_true (by omega)
     have k2 : decide ((n : Int) ≤ (v : Int)) = false := decide_eq_false (by omega)
     have hv65 := hrk.1
     by_cases h0 : 0 < k
     ·obtain ⟨g7, o7, he, hg7, hc7, hv7⟩ := HS.out.2 (k - 1) (by omega)
      obtain ⟨rfl, rfl⟩ : g6 = g7 ∧ o6 = o7 := by injection he with he; injection he with e1 e2; exact ⟨e1, e2⟩
      have huv := hrk.2 h0
      obtain ⟨u, hu⟩ : ∃ u, l[k - 1]'(by omega) = u := ⟨_, rfl⟩
      rw [hu] at hc7 hv7 huv
      obtain ⟨q, hq⟩ : ∃ q, k - 1 = q := ⟨_, rfl⟩
      rw [hq] at hc7
      have k3 : decide ((0 : Int) < (k : Int)) = true := decide_eq_true (by omega)
      have k3n : decide (0 < k) = true := decide_eq_true h0
      have k4 : decide ((v : Int) ≤ (u : Int)) = false := decide_eq_false (by omega)
      have k4n : decide (v ≤ u) = false := decide_eq_false (by omega)
      have w1 : IntKind.i64.wrap ((k : Int) - 1) = (q : Int) := by rw [IntWalk.i64_in _ (by omega)]; omega
      have q1 : (q : Int) < (m : Int) := by omega
      have q2 : (0 : Int) ≤ (q : Int) := Int.natCast_nonneg _
      clear hv hu he hq hrk
      go_wp2_with fail
      go_roundw
      case rel => exact ⟨k + 1, by go_num, by omega, by trivial⟩
      case measure => simp [intOf]; omega
     ·have k3 : decide ((0 : Int) < (k : Int)) = false := decide_eq_false (by omega)
      have k3n : decide (0 < k) = false := decide_eq_false h0
      clear hv hrk
      go_wp2_with fail
      go_roundw
      case rel => exact ⟨k + 1, by go_num, by omega, by trivial⟩
      case measure => simp [intOf]; omega
    ·have k1 : decide ((k : Int) < (m : Int)) = false := decide_eq_false (by omega)
     go_wp2_with fail
     go_roundw
     case rel => exact ⟨i + 1, by go_num, by omega, by rw [ES.out]; simp, by trivial⟩
     case measure => simp [intOf]; omega
  ·have i1 : decide ((i : Int) < (n : Int)) = false := decide_eq_false (by omega)
   have i2 : decide ((n : Int) ≤ 65536) = true := decide_eq_true (by omega)
   have i3 : decide ((E : Int) ≤ 1048576) = true := decide_eq_true (by omega)
   go_wp2_with fail
   go_ret
   exact ⟨rfl, rfl⟩
end Go.Proofs.YtflnpcgnenhogaaGreatDoor.ls
namespace Go.Proofs.YtflnpcgnenhogaaGreatDoor.ls
open Go.RowKit Go.Proofs.YtflnpcgnenhogaaGreatDoor.own Go.Proofs.YtflnpcgnenhogaaGreatDoor.bit

theorem Tryz.infoU64 : (Tryz.prog.info? 97).map (fun i => (i.zero, i.size, i.bytes)) = some (some (.int .u64 0), 1, 8) := by kernel_rfl
def u64V (l : List Nat) : List Value := l.map fun (v : Nat) => Value.int .u64 (v : Int)
theorem u64V_append (a b : List Nat) : u64V (a ++ b) = u64V a ++ u64V b := List.map_append
/-- a packer, and a row of places of the call's own -/
def EA (w : World) (b : Bp) (T : List Tk) (wb E : Nat) (l : Bits) (kb : Nat) (ls ks : List (Nat × Obj)) (va : Value) (A : List Nat) (W : World) : Prop :=
 W.ownsRow 0 97 1 va A.length (u64V A) ∧ ∃ ka, KS w b T wb E 0 l none kb ls (ka ++ ks) W ∧ (∀ g, va.ownBlock = some g → ∃ o, (g, o) ∈ ka) ∧ (∀ p ∈ ka, some p.1 = va.ownBlock) ∧ ∀ p ∈ ls ++ ks, some p.1 ≠ va.ownBlock
section
variable {w W W' : World} {b : Bp} {T : List Tk} {wb E D : Nat} {l : Bits} {rd : Option (Nat × ByteArray × Nat)} {kb : Nat} {ls ks js : List (Nat × Obj)} {va : Value} {A : List Nat}
theorem KS.kb_lt (h : KS w b T wb E D l rd kb ls ks W) : kb < W.heap.size := by
 obtain ⟨row, h1, _⟩ := h
 exact lt_of_block (h1.row (List.mem_cons_self ..))
theorem KS.ls_lt (h : KS w b T wb E D l rd kb ls ks W) : ∀ p ∈ ls, p.1 < W.heap.size := fun p hp => by
 obtain ⟨row, h1, _⟩ := h
 exact lt_of_block (h1.row (b := p.1) (o := p.2) (List.mem_cons_of_mem _ (List.mem_append_left _ hp)))
theorem KS.more (h : KS w b T wb E D l rd kb ls ks W) (k : Below W.heap.size W W') (hj : ∀ p ∈ js, W.heap.size ≤ p.1 ∧ W'.heap[p.1]? = some p.2) : KS w b T wb E D l rd kb ls (js ++ ks) W' := by
 have hlt := h.kb_lt
 obtain ⟨row, h1, h2, h3⟩ := h
 refine ⟨row, (h1.more k hj).sub (fun p hp => ?_), fun p hp => ?_, h3⟩
 ·simp only [List.mem_cons, List.mem_append] at hp ⊢
  rcases hp with h | h | h | h
  ·exact .inr (.inl h)
  ·exact .inr (.inr (.inl h))
  ·exact .inl h
  ·exact .inr (.inr (.inr h))
 ·simp only [List.mem_append] at hp
  rcases hp with h | h | h
  ·exact h2 p (List.mem_append_left _ h)
  ·have := (hj p h).1
   omega
  ·exact h2 p (List.mem_append_right _ h)
theorem EA.start (h : KS w b T wb E 0 l none kb ls ks W) : EA w b T wb E l kb ls ks (.slice (some ⟨W.heap.size, 0, none⟩) 1 1) [0] (W.alloc (.cells #[.int .u64 0] 97)) := by
 have k : Below W.heap.size W (W.alloc (.cells #[.int .u64 0] 97)) := (Below.refl _ _).alloc (Nat.le_refl _) _
 have hr := heap_alloc_new W (.cells #[.int .u64 0] 97)
 refine ⟨⟨rfl, .inr ⟨W.heap.size, 1, _, rfl, Nat.zero_le _, hr, Nat.le_refl _, by decide, rfl, rfl⟩⟩, [(W.heap.size, .cells #[.int .u64 0] 97 (0, 0))], h.more (js := [(W.heap.size, .cells #[.int .u64 0] 97 (0, 0))]) k (fun p hp => by rw [List.mem_singleton.1 hp]; exact ⟨Nat.le_refl _, hr⟩), fun g hg => ⟨.cells #[.int .u64 0] 97 (0, 0), by injection hg with hg; subst hg; exact List.mem_singleton.2 rfl⟩, fun p hp => by rw [List.mem_singleton.1 hp]; rfl, fun p hp e => ?_⟩
 have e : some p.1 = some W.heap.size := e
 injection e with e
 have : p.1 < W.heap.size := by
  rcases List.mem_append.1 hp with hp | hp
  ·exact h.ls_lt p hp
  ·exact lt_of_block (h.has hp)
 omega
theorem EA.below (h : EA w b T wb E l kb ls ks va A W) : Below w.heap.size w W := by
 obtain ⟨_, ka, h1, _⟩ := h
 exact h1.below
theorem EA.has (h : EA w b T wb E l kb ls ks va A W) {p : Nat × Obj} (hp : p ∈ ks) : W.heap[p.1]? = some p.2 := by
 obtain ⟨_, ka, h1, _⟩ := h
 exact h1.has (List.mem_append_right _ hp)
/-- a vertex is added -/
theorem EA.add {a : Option Addr} {succ : List Nat} {cap : Nat} (h : EA w b T wb E l kb ls ks va A W) (hG : GL w) (hb : b.p.ok) (hdp : b.depth ≤ 16) (hx : T.length < 65536) (hs : Ris succ) (hT : TOk T) (hc : succ.length ≤ cap) (hA : Seen w ks a succ) (hE : E + succ.length ≤ 1048576) (hl : l.length + (addB b T succ).length ≤ 134217728) :
  Calls Tryz.prog 37 #[.pointer (some ⟨kb, 0, none⟩), .slice a succ.length cap] W fun e w' => e = .returned (.tuple #[.int .i64 ((pickB b T succ).2.1 : Int), .int .i64 ((pickB b T succ).1 : Int), .int .i64 0]) ∧ ∃ ls', EA w b (T ++ [putB b T succ]) wb (E + succ.length) (l ++ addB b T succ) kb ls' ks va A w' := by
 obtain ⟨h1, ka, h2, h3, h4, h5⟩ := h
 refine (add_yes h2 hG hb hdp hx hs hT hc (hA.more (fun p hp => List.mem_append_right _ hp)) hE hl).mono ?_
 rintro e w' ⟨rfl, ls', h6, h7⟩
 refine ⟨rfl, ls', own_same2 h1 (fun g hg => ?_), ka, h6, h3, h4, fun p hp => ?_⟩
 ·obtain ⟨o, ho⟩ := h3 g hg
  rw [h2.has (p := (g, o)) (List.mem_append_left _ ho), h6.has (p := (g, o)) (List.mem_append_left _ ho)]
 ·rcases List.mem_append.1 hp with hp | hp
  ·rcases h7 p hp with h | h
   ·exact h5 p (List.mem_append_left _ h)
   ·intro e
    have := (h1.lt p.1 e.symm).2
    omega
  ·exact h5 p (List.mem_append_right _ hp)
/-- a place is written down -/
theorem EA.push (h : EA w b T wb E l kb ls ks va A W) {W2 : World} {v' : Value} (o : Obj) (z : Nat) (own : W2.ownsRow 0 97 1 v' (A.length + 1) (u64V A ++ [.int .u64 (z : Int)])) (hg : (W.alloc o).grownBy W2 va.ownBlock)
  (hw : v'.ownBlock = va.ownBlock ∨ v'.ownBlock = some (W.heap.size + 1)) : EA w b T wb E l kb ls ks v' (A ++ [z]) W2 := by
 obtain ⟨h1, ka, h2, h3, h4, h5⟩ := h
 have h2n := h2.next ((Below.refl _ _).alloc (Nat.le_refl W.heap.size) o)
 have hkb := h2.kb_lt
 obtain ⟨k2, hk1, hk2, hk3⟩ := own_ks own
 obtain ⟨row, f1, f2, f3⟩ := h2n
 have hz : (W.alloc o).heap.size = W.heap.size + 1 := by simp
 have kbr : some kb ≠ va.ownBlock := fun e => by
  obtain ⟨o', ho'⟩ := h3 kb e.symm
  exact f2 _ (List.mem_append_right _ (List.mem_append_left _ ho')) rfl
 have old : ∀ p ∈ ls ++ ks, p.1 < W.heap.size := fun p hp => by
  rcases List.mem_append.1 hp with hp | hp
  ·exact h2.ls_lt p hp
  ·exact lt_of_block (h2.has (List.mem_append_right _ hp))
 have new : ∀ g, g < W.heap.size → some g ≠ va.ownBlock → some g ≠ v'.ownBlock := fun g hl hne => own_new hw (by omega) hne
 refine ⟨by rw [u64V_append, List.length_append]; exact own, k2, ⟨row, f1.grown hg (fun g e => ?_) (fun p hp => ?_), fun p hp => ?_, f3⟩, hk1, hk2, fun p hp => new _ (old p hp) (h5 p hp)⟩
 ·obtain ⟨o', ho'⟩ := h3 g e
  exact ⟨o', List.mem_cons_of_mem _ (List.mem_append_right _ (List.mem_append_left _ ho'))⟩
 ·simp only [List.mem_cons, List.mem_append] at hp
  rcases hp with rfl | hp | hp | hp
  ·exact .inl ⟨List.mem_cons_self .., kbr⟩
  ·exact .inl ⟨List.mem_cons_of_mem _ (List.mem_append_left _ hp), h5 p (List.mem_append_left _ hp)⟩
  ·refine .inr ⟨?_, hk3 p hp⟩
   rcases hw with h | h
   ·exact .inl ((hk2 p hp).trans h)
   ·have := (hk2 p hp).trans h
    injection this with this
    exact .inr (by omega)
  ·exact .inl ⟨List.mem_cons_of_mem _ (List.mem_append_right _ (List.mem_append_right _ hp)), h5 p (List.mem_append_right _ hp)⟩
 ·simp only [List.mem_append] at hp
  rcases hp with hp | hp | hp
  ·exact f2 p (List.mem_append_left _ hp)
  ·intro e
   have e2 := hk2 p hp
   rw [e] at e2
   exact new kb hkb kbr e2
  ·exact f2 p (List.mem_append_right _ (List.mem_append_right _ hp))
/-- the bits so far -/
theorem EA.bits (h : EA w b T wb E l kb ls ks va A W) (hD : l.length ≤ 9223372036854775807) : Calls Tryz.prog 40 #[.pointer (some ⟨kb, 0, none⟩)] W fun e w' => e = .returned (.int .i64 (l.length : Int)) ∧ EA w b T wb E l kb ls ks va A w' := by
 obtain ⟨h1, ka, h2, h3, h4, h5⟩ := h
 refine (h2.bits (by omega)).mono ?_
 rintro e w' ⟨rfl, h6⟩
 refine ⟨by rw [Nat.zero_add], own_same2 h1 (fun g hg => ?_), ka, h6, h3, h4, h5⟩
 obtain ⟨o, ho⟩ := h3 g hg
 rw [h2.has (p := (g, o)) (List.mem_append_left _ ho), h6.has (p := (g, o)) (List.mem_append_left _ ho)]
theorem EA.text (h : EA w b T wb E l kb ls ks va A W) : Calls Tryz.prog 43 #[.pointer (some ⟨kb, 0, none⟩)] W fun e w' => e = .returned (.tuple #[.string (txt (packN l)), .int .i64 0]) ∧ EA w b T wb E l kb ls ks va A w' := by
 obtain ⟨h1, ka, h2, h3, h4, h5⟩ := h
 refine h2.text.mono ?_
 rintro e w' ⟨rfl, h6⟩
 refine ⟨rfl, own_same2 h1 (fun g hg => ?_), ka, h6, h3, h4, h5⟩
 obtain ⟨o, ho⟩ := h3 g hg
 rw [h2.has (p := (g, o)) (List.mem_append_left _ ho), h6.has (p := (g, o)) (List.mem_append_left _ ho)]
end
end Go.Proofs.YtflnpcgnenhogaaGreatDoor.ls
namespace Go.Proofs.YtflnpcgnenhogaaGreatDoor.ls
open Go.RowKit Go.Proofs.YtflnpcgnenhogaaGreatDoor.own Go.Proofs.YtflnpcgnenhogaaGreatDoor.bit

/-! ### rows of a call's own, each in blocks of its own -/
def KA (ka : List (Nat × Obj)) (v : Value) : Prop := (∀ g, v.ownBlock = some g → ∃ o, (g, o) ∈ ka) ∧ ∀ p ∈ ka, some p.1 = v.ownBlock
theorem KA.none : KA [] (.slice none 0 0) := ⟨fun g hg => (by cases hg), fun p hp => (by cases hp)⟩
def Off (K : List (Nat × Obj)) (v : Value) : Prop := ∀ p ∈ K, some p.1 ≠ v.ownBlock
theorem Off.none (K : List (Nat × Obj)) : Off K (.slice none 0 0) := fun p _ e => by cases e
theorem Off.app {a b : List (Nat × Obj)} {v : Value} (h : Off a v) (k : Off b v) : Off (a ++ b) v := fun p hp => (List.mem_append.1 hp).elim (h p) (k p)
theorem Off.sub {a b : List (Nat × Obj)} {v : Value} (h : Off a v) (k : ∀ p ∈ b, p ∈ a) : Off b v := fun p hp => h p (k p hp)
/-- such a row grows, the rest stands still -/
theorem FS.push {w W W2 : World} {wr : Option (Nat × Bits)} {rd : Option (Nat × ByteArray × Nat)} {ka K : List (Nat × Obj)} {v v' : Value} {T : TypeId} {n : Nat} {xs : List Value} (h : FS w wr rd (ka ++ K) W) (ha : KA ka v) (hoff : Off K v) (hg : W.grownBy W2 v.ownBlock) (own : W2.ownsRow 0 T 1 v' n xs) (hw : v'.ownBlock = v.ownBlock ∨ v'.ownBlock = some W.heap.size) :
  ∃ k2, KA k2 v' ∧ Off K v' ∧ FS w wr rd (k2 ++ K) W2 ∧ ∀ p ∈ k2, (∃ o, (p.1, o) ∈ ka) ∨ W.heap.size ≤ p.1 := by
 obtain ⟨k2, hk1, hk2, hk3⟩ := own_ks own
 have old : ∀ p ∈ K, p.1 < W.heap.size := fun p hp => lt_of_block (h.row (b := p.1) (o := p.2) (List.mem_append_right _ hp))
 refine ⟨k2, ⟨hk1, hk2⟩, fun p hp => own_new hw (old p hp) (hoff p hp), h.grown hg (fun g e => ?_) (fun p hp => ?_), fun p hp => ?_⟩
 ·obtain ⟨o, ho⟩ := ha.1 g e
  exact ⟨o, List.mem_append_left _ ho⟩
 ·rcases List.mem_append.1 hp with hp | hp
  ·refine .inr ⟨?_, hk3 p hp⟩
   rcases hw with e | e
   ·exact .inl ((hk2 p hp).trans e)
   ·have := (hk2 p hp).trans e
    injection this with this
    exact .inr (by omega)
  ·exact .inl ⟨List.mem_append_right _ hp, hoff p hp⟩
 ·rcases hw with e | e
  ·have := (hk2 p hp).trans e
   exact .inl (ha.1 _ this.symm)
  ·have := (hk2 p hp).trans e
   injection this with this
   exact .inr (by omega)
end Go.Proofs.YtflnpcgnenhogaaGreatDoor.ls
namespace Go.Proofs.YtflnpcgnenhogaaGreatDoor.ls
open Go.RowKit Go.Proofs.YtflnpcgnenhogaaGreatDoor.own Go.Proofs.YtflnpcgnenhogaaGreatDoor.bit

structure Rw where
 T : TypeId
 v : Value
 xs : List Value
def Rw.owned (r : Rw) (W : World) : Prop := W.ownsRow 0 r.T 1 r.v r.xs.length r.xs
def Rws (w : World) (wr : Option (Nat × Bits)) (rd : Option (Nat × ByteArray × Nat)) : List Rw → List (Nat × Obj) → World → Prop
 | [], K, W => FS w wr rd K W
 | r :: rs, K, W => ∃ ka, KA ka r.v ∧ r.owned W ∧ Off K r.v ∧ Rws w wr rd rs (ka ++ K) W
section
variable {w W W2 : World} {wr wr' : Option (Nat × Bits)} {rd rd' : Option (Nat × ByteArray × Nat)} {rs : List Rw} {K K' : List (Nat × Obj)}
theorem Rws.sub : ∀ {rs : List Rw} {K K' : List (Nat × Obj)}, Rws w wr rd rs K W → (∀ p ∈ K', p ∈ K) → Rws w wr rd rs K' W
 | [], _, _, h, k => FS.sub h k
 | _ :: _, _, _, ⟨ka, h1, h2, h3, h4⟩, k => ⟨ka, h1, h2, h3.sub k, h4.sub (fun p hp => by
  rcases List.mem_append.1 hp with hp | hp
  ·exact List.mem_append_left _ hp
  ·exact List.mem_append_right _ (k p hp))⟩
theorem Rws.fs : ∀ {rs : List Rw} {K : List (Nat × Obj)}, Rws w wr rd rs K W → FS w wr rd K W
 | [], _, h => h
 | _ :: _, _, ⟨_, _, _, _, h4⟩ => (Rws.fs h4).sub (fun _ hp => List.mem_append_right _ hp)
theorem Rws.has (h : Rws w wr rd rs K W) {p : Nat × Obj} (hp : p ∈ K) : W.heap[p.1]? = some p.2 := h.fs.row (b := p.1) (o := p.2) hp
theorem Rws.below (h : Rws w wr rd rs K W) : Below w.heap.size w W := h.fs.below
theorem KA.off {ka kb : List (Nat × Obj)} {v u : Value} (ha : KA ka v) (hb : KA kb u) (h : Off ka u) : Off kb v := fun p hp e => by
 obtain ⟨o, ho⟩ := ha.1 p.1 e.symm
 exact h _ ho (hb.2 p hp)
theorem Rws.swap {a b : Rw} (h : Rws w wr rd (a :: b :: rs) K W) : Rws w wr rd (b :: a :: rs) K W := by
 obtain ⟨ka, h1, h2, h3, kb, h4, h5, h6, h7⟩ := h
 refine ⟨kb, h4, h5, h6.sub (fun p hp => List.mem_append_right _ hp), ka, h1, h2, (h1.off h4 (h6.sub (fun p hp => List.mem_append_left _ hp))).app h3, h7.sub (fun p hp => ?_)⟩
 simp only [List.mem_append] at hp ⊢
 rcases hp with hp | hp | hp
 ·exact .inr (.inl hp)
 ·exact .inl hp
 ·exact .inr (.inr hp)
theorem Rws.perm {rs rs' : List Rw} (hp : List.Perm rs rs') : ∀ {K : List (Nat × Obj)}, Rws w wr rd rs K W → Rws w wr rd rs' K W := by
 induction hp with
 | nil => exact fun h => h
 | cons a _ ih => exact fun ⟨ka, h1, h2, h3, h4⟩ => ⟨ka, h1, h2, h3, ih h4⟩
 | swap a b l => exact fun h => h.swap
 | trans _ _ ih1 ih2 => exact fun h => ih2 (ih1 h)
theorem Rw.same {r : Rw} {ka Ka Kb : List (Nat × Obj)} (h : r.owned W) (hk : KA ka r.v) (f : FS w wr rd (ka ++ Ka) W) (f2 : FS w wr' rd' (ka ++ Kb) W2) : r.owned W2 :=
 own_same2 h (fun g hg => by
  obtain ⟨o, ho⟩ := hk.1 g hg
  rw [f.row (b := g) (o := o) (List.mem_append_left _ ho), f2.row (b := g) (o := o) (List.mem_append_left _ ho)])
/-- the state takes a step, the rows stay -/
theorem Rws.step : ∀ {rs : List Rw} {K K' : List (Nat × Obj)}, Rws w wr rd rs K W → (∀ Kx, FS w wr rd (Kx ++ K) W → FS w wr' rd' (Kx ++ K') W2) → (∀ p ∈ K', (∃ o, (p.1, o) ∈ K) ∨ W.heap.size ≤ p.1) → Rws w wr' rd' rs K' W2
 | [], _, _, h, hs, _ => hs [] h
 | r :: rs, K, K', ⟨ka, h1, h2, h3, h4⟩, hs, hk => by
  have f := h4.fs
  have g := Rws.step (K' := ka ++ K') h4 (fun Kx hx => by
   rw [← List.append_assoc] at hx ⊢
   exact hs _ hx) (fun p hp => by
   rcases List.mem_append.1 hp with hp | hp
   ·exact .inl ⟨p.2, List.mem_append_left _ hp⟩
   ·rcases hk p hp with ⟨o, ho⟩ | hl
    ·exact .inl ⟨o, List.mem_append_right _ ho⟩
    ·exact .inr hl)
  refine ⟨ka, h1, Rw.same h2 h1 f g.fs, fun p hp e => ?_, g⟩
  rcases hk p hp with ⟨o, ho⟩ | hl
  ·exact h3 _ ho e
  ·obtain ⟨o, ho⟩ := h1.1 p.1 e.symm
   have := lt_of_block (f.row (b := p.1) (o := o) (List.mem_append_left _ ho))
   omega
theorem Rws.next (h : Rws w wr rd rs K W) (k : Below W.heap.size W W2) : Rws w wr rd rs K W2 := h.step (fun _ hx => hx.next k) (fun p hp => .inl ⟨p.2, hp⟩)
theorem Rws.more {js : List (Nat × Obj)} (h : Rws w wr rd rs K W) (k : Below W.heap.size W W2) (hj : ∀ p ∈ js, W.heap.size ≤ p.1 ∧ W2.heap[p.1]? = some p.2) : Rws w wr rd rs (js ++ K) W2 :=
 h.step (fun Kx hx => (hx.more k hj).sub (fun p hp => by
  simp only [List.mem_append] at hp ⊢
  rcases hp with hp | hp | hp
  ·exact .inr (.inl hp)
  ·exact .inl hp
  ·exact .inr (.inr hp))) (fun p hp => (List.mem_append.1 hp).elim (fun hp => .inr (hj p hp).1) (fun hp => .inl ⟨p.2, hp⟩))
theorem Rws.add (h : Rws w wr rd rs K W) (row : Array Value) (T : TypeId) : Rws w wr rd rs ((W.heap.size, .cells row T (0, 0)) :: K) (W.alloc (.cells row T)) :=
 h.more (js := [(W.heap.size, .cells row T (0, 0))]) ((Below.refl _ _).alloc (Nat.le_refl _) _) (fun p hp => by rw [List.mem_singleton.1 hp]; exact ⟨Nat.le_refl _, heap_alloc_new W _⟩)
/-- a block beside is turned -/
theorem Rws.turn {b : Nat} {o o' : Obj} (h : Rws w wr rd rs ((b, o) :: K) W) (k : Keeps W W2 (fun x => x = b)) (hb : W2.heap[b]? = some o') (hne : ∀ p ∈ K, p.1 ≠ b) : Rws w wr rd rs ((b, o') :: K) W2 := by
 have key : ∀ {rs : List Rw} {K : List (Nat × Obj)}, Rws w wr rd rs ((b, o) :: K) W → (∀ p ∈ K, p.1 ≠ b) → Rws w wr rd rs ((b, o') :: K) W2 := by
  intro rs
  induction rs with
  | nil => exact fun h hne => FS.turn h k hb hne
  | cons r rs ih =>
   rintro K ⟨ka, h1, h2, h3, h4⟩ hne
   have hnk : ∀ p ∈ ka, p.1 ≠ b := fun p hp e => h3 (b, o) (List.mem_cons_self ..) (by rw [← e]; exact h1.2 p hp)
   have g := ih (h4.sub (K' := (b, o) :: (ka ++ K)) (fun p hp => by
    simp only [List.mem_cons, List.mem_append] at hp ⊢
    rcases hp with hp | hp | hp
    ·exact .inr (.inl hp)
    ·exact .inl hp
    ·exact .inr (.inr hp))) (fun p hp => (List.mem_append.1 hp).elim (hnk p) (hne p))
   have g2 := g.sub (K' := ka ++ ((b, o') :: K)) (fun p hp => by
    simp only [List.mem_cons, List.mem_append] at hp ⊢
    rcases hp with hp | hp | hp
    ·exact .inr (.inl hp)
    ·exact .inl hp
    ·exact .inr (.inr hp))
   refine ⟨ka, h1, Rw.same h2 h1 h4.fs g2.fs, fun p hp e => ?_, g2⟩
   rcases List.mem_cons.1 hp with rfl | hp
   ·exact h3 (b, o) (List.mem_cons_self ..) e
   ·exact h3 p (List.mem_cons_of_mem _ hp) e
 exact key h hne
theorem Rws.store {b j : Nat} {row : Array Value} {T : TypeId} (v : Value) (h : Rws w wr rd rs ((b, .cells row T (0, 0)) :: K) W) (hne : ∀ p ∈ K, p.1 ≠ b) : Rws w wr rd rs ((b, .cells (row.setIfInBounds j v) T (0, 0)) :: K) (W.setCell ⟨b, j, none⟩ v) :=
 h.turn ((Keeps.refl W (fun x => x = b)).setCell (p := ⟨b, j, none⟩) (.inl rfl) v) (heap_setCell_same W b j _ _ v (h.has (p := (b, .cells row T (0, 0))) (List.mem_cons_self ..))) hne
/-- the first row grows -/
theorem Rws.pushIn {ka : List (Nat × Obj)} {v v' : Value} {T : TypeId} {n : Nat} {xs : List Value} (ha : KA ka v) (hg : W.grownBy W2 v.ownBlock) (own : W2.ownsRow 0 T 1 v' n xs) (hw : v'.ownBlock = v.ownBlock ∨ v'.ownBlock = some W.heap.size) :
  ∀ {rs : List Rw} {K : List (Nat × Obj)}, Rws w wr rd rs (ka ++ K) W → Off K v → ∃ k2, KA k2 v' ∧ Off K v' ∧ Rws w wr rd rs (k2 ++ K) W2
 | [], _, h, ho => by
  obtain ⟨k2, h1, h2, h3, _⟩ := FS.push h ha ho hg own hw
  exact ⟨k2, h1, h2, h3⟩
 | r :: rs, K, ⟨kr, h1, h2, h3, h4⟩, ho => by
  have mv : ∀ (x y z : List (Nat × Obj)), ∀ p ∈ y ++ (x ++ z), p ∈ x ++ (y ++ z) := fun x y z p hp => by
   simp only [List.mem_append] at hp ⊢
   rcases hp with hp | hp | hp
   ·exact .inr (.inl hp)
   ·exact .inl hp
   ·exact .inr (.inr hp)
  obtain ⟨k2, g1, g2, g3⟩ := Rws.pushIn ha hg own hw (h4.sub (mv kr ka K)) ((ha.off h1 (h3.sub (fun p hp => List.mem_append_left _ hp))).app ho)
  have g4 := g3.sub (mv k2 kr K)
  refine ⟨k2, g1, g2.sub (fun p hp => List.mem_append_right _ hp), kr, h1, Rw.same h2 h1 h4.fs g4.fs, ?_, g4⟩
  exact (h1.off g1 (g2.sub (fun p hp => List.mem_append_left _ hp))).app (h3.sub (fun p hp => List.mem_append_right _ hp))
theorem Rws.push {v v' : Value} {T : TypeId} {xs xs' : List Value} (h : Rws w wr rd (⟨T, v, xs⟩ :: rs) K W) (own : W2.ownsRow 0 T 1 v' xs'.length xs') (hg : W.grownBy W2 v.ownBlock) (hw : v'.ownBlock = v.ownBlock ∨ v'.ownBlock = some W.heap.size) : Rws w wr rd (⟨T, v', xs'⟩ :: rs) K W2 := by
 obtain ⟨ka, h1, _, h3, h4⟩ := h
 obtain ⟨k2, g1, g2, g3⟩ := Rws.pushIn h1 hg own hw h4 h3
 exact ⟨k2, g1, own, g2, g3⟩
theorem Rws.own {r : Rw} (h : Rws w wr rd (r :: rs) K W) : r.owned W := by
 obtain ⟨ka, h1, h2, h3⟩ := h
 exact h2
theorem Rws.lift {T : TypeId} (h : Rws w wr rd rs K W) : Rws w wr rd (⟨T, .slice none 0 0, []⟩ :: rs) K W := ⟨[], KA.none, World.ownsRow_nil _ _ _ _, Off.none _, h⟩
/-- a row that a call made -/
theorem Rws.fresh {v : Value} {T : TypeId} {xs : List Value} (h : Rws w wr rd rs K W) (k : Below W.heap.size W W2) (own : W2.ownsRow W.heap.size T 1 v xs.length xs) : Rws w wr rd (⟨T, v, xs⟩ :: rs) K W2 := by
 have own0 := own_base own (Nat.zero_le _)
 obtain ⟨k2, h1, h2, h3⟩ := own_ks own0
 have hge : ∀ p ∈ k2, W.heap.size ≤ p.1 := fun p hp => (own.lt p.1 (h2 p hp).symm).1
 refine ⟨k2, ⟨h1, h2⟩, own0, fun p hp e => ?_, h.more k (fun p hp => ⟨hge p hp, h3 p hp⟩)⟩
 have := (own.lt p.1 e.symm).1
 have := lt_of_block (h.has hp)
 omega
/-- the first row stands still from now on -/
theorem Rws.still {r : Rw} (h : Rws w wr rd (r :: rs) K W) : ∃ ka, KA ka r.v ∧ r.owned W ∧ Rws w wr rd rs (ka ++ K) W := by
 obtain ⟨ka, h1, h2, h3, h4⟩ := h
 exact ⟨ka, h1, h2, h4⟩
end
end Go.Proofs.YtflnpcgnenhogaaGreatDoor.ls
namespace Go.Proofs.YtflnpcgnenhogaaGreatDoor.ls
open Go.RowKit Go.Proofs.YtflnpcgnenhogaaGreatDoor.own Go.Proofs.YtflnpcgnenhogaaGreatDoor.bit

def chV (T : List Tk) : List Value := T.map fun (t : Tk) => Value.int .i64 (t.2 : Int)
theorem chV_length (T : List Tk) : (chV T).length = T.length := by unfold chV; rw [List.length_map]
theorem chV_snoc (T : List Tk) (t : Tk) : chV (T ++ [t]) = chV T ++ [.int .i64 (t.2 : Int)] := by unfold chV; rw [List.map_append]; rfl
theorem bls_len (l : Bits) : (bls l).length = l.length := by unfold bls; rw [List.length_map]
def dpRow (b : Bp) (vL vC vB : Value) (dr E : Nat) : Array Value := #[.int .i64 (b.p.win : Int), .int .i64 (b.depth : Int), .int .i64 (b.p.itv : Int), .int .i64 (b.p.zet : Int), .int .i64 (b.cap : Int), vL, vC, vB, .int .i64 (dr : Int), .int .i64 (E : Int)]
/-- the document's packer: its block, its three rows, its lists; other rows and blocks beside -/
def DP (w : World) (wr : Option (Nat × Bits)) (rd : Option (Nat × ByteArray × Nat)) (b : Bp) (T : List Tk) (l : Bits) (dr E qb : Nat) (gs : List (Nat × Obj)) (vL vC vB : Value) (V : List Value) (rs : List Rw) (ks : List (Nat × Obj)) (W : World) : Prop :=
 Rws w wr rd (⟨34, vL, V⟩ :: ⟨3, vC, chV T⟩ :: ⟨4, vB, bls l⟩ :: rs) ((qb, .cells (dpRow b vL vC vB dr E) 87 (0, 0)) :: (gs ++ ks)) W ∧ GRow gs V (T.map (·.1)) ∧ ∀ p ∈ gs ++ ks, p.1 ≠ qb
section
variable {w W W' : World} {wr : Option (Nat × Bits)} {rd : Option (Nat × ByteArray × Nat)} {b : Bp} {T : List Tk} {l : Bits} {dr E qb : Nat} {gs : List (Nat × Obj)} {vL vC vB : Value} {V : List Value} {rs : List Rw} {ks : List (Nat × Obj)}
theorem DP.next (h : DP w wr rd b T l dr E qb gs vL vC vB V rs ks W) (k : Below W.heap.size W W') : DP w wr rd b T l dr E qb gs vL vC vB V rs ks W' := ⟨h.1.next k, h.2⟩
theorem DP.below (h : DP w wr rd b T l dr E qb gs vL vC vB V rs ks W) : Below w.heap.size w W := h.1.below
theorem DP.row (h : DP w wr rd b T l dr E qb gs vL vC vB V rs ks W) : W.heap[qb]? = some (.cells (dpRow b vL vC vB dr E) 87 (0, 0)) := h.1.has (List.mem_cons_self ..)
theorem DP.ownL (h : DP w wr rd b T l dr E qb gs vL vC vB V rs ks W) : W.ownsRow 0 34 1 vL T.length V := by
 have h1 := h.1.own
 have h2 := h.2.1.1
 rw [List.length_map] at h2
 unfold Rw.owned at h1
 dsimp only at h1
 rw [h2] at h1
 exact h1
theorem DP.ownC (h : DP w wr rd b T l dr E qb gs vL vC vB V rs ks W) : W.ownsRow 0 3 1 vC T.length (chV T) := by
 have h1 := h.1.swap.own
 unfold Rw.owned at h1
 dsimp only at h1
 rw [chV_length] at h1
 exact h1
theorem rot3 {α : Type} (x y z : α) (r : List α) : List.Perm (x :: y :: z :: r) (z :: x :: y :: r) := (List.Perm.cons x (List.Perm.swap z y r)).trans (List.Perm.swap z x (y :: r))
theorem DP.ownB (h : DP w wr rd b T l dr E qb gs vL vC vB V rs ks W) : W.ownsRow 0 4 1 vB l.length (bls l) := by
 have h1 := (h.1.perm (rot3 _ _ _ _)).own
 unfold Rw.owned at h1
 dsimp only at h1
 rw [bls_len] at h1
 exact h1
/-- as it is read -/
theorem DP.view (h : DP w wr rd b T l dr E qb gs vL vC vB V rs ks W) (hT : T.length ≤ 65536) : ∃ aL dL aC dC, vL = .slice aL T.length dL ∧ vC = .slice aC T.length dC ∧ T.length ≤ dL ∧ T.length ≤ dC ∧ DPv b T qb aL dL aC dC vB E W := by
 have r := h.row
 have oL := h.ownL
 have oC := h.ownC
 obtain ⟨aL, dL, eL, hdL⟩ := own_slice oL
 obtain ⟨aC, dC, eC, hdC⟩ := own_slice oC
 subst eL eC
 refine ⟨aL, dL, aC, dC, rfl, rfl, hdL, hdC, ⟨lt_of_block r, by rw [cell_of_row _ _ _ _ _ _ r]; rfl, by rw [cell_of_row _ _ _ _ _ _ r]; rfl, by rw [cell_of_row _ _ _ _ _ _ r]; rfl, by rw [cell_of_row _ _ _ _ _ _ r]; rfl, by rw [cell_of_row _ _ _ _ _ _ r]; rfl, by rw [cell_of_row _ _ _ _ _ _ r]; rfl, by rw [cell_of_row _ _ _ _ _ _ r]; rfl, by rw [cell_of_row _ _ _ _ _ _ r]; rfl, by rw [cell_of_row _ _ _ _ _ _ r]; rfl, ?_, ?_⟩⟩
 ·have hl : (T.map (·.1)).length = T.length := List.length_map ..
  refine h.2.1.lls (base := 0) (d := dL) (by rw [hl]; exact oL) (by rw [hl]; omega) (fun p hp => h.1.has (List.mem_cons_of_mem _ (List.mem_append_left _ hp)))
 ·have hl : (T.map (·.2)).length = T.length := List.length_map ..
  refine ⟨by rw [hl]; omega, fun i hi => ?_⟩
  rw [hl] at hi
  rcases oC.2 with ⟨_, h0⟩ | ⟨g, cap, cur, hv, _, hg, _, _, _, _⟩
  ·omega
  ·injection hv with e1 e2 e3
   subst e1
   refine ⟨g, 0, rfl, lt_of_block hg, ?_⟩
   rw [Nat.zero_add, oC.cellAt i (by omega)]
   unfold chV
   rw [List.getElem?_map, List.getElem?_eq_getElem hi, List.getElem_map]
   rfl
/-- one of the rows has grown, and its place in the block is written over -/
theorem DP.putB (h : DP w wr rd b T l dr E qb gs vL vC vB V rs ks W) {W2 : World} {v' : Value} (m : Bits) (own : W2.ownsRow 0 4 1 v' (l.length + m.length) (bls l ++ bls m)) (hg : W.grownBy W2 vB.ownBlock) (hw : v'.ownBlock = vB.ownBlock ∨ v'.ownBlock = some W.heap.size) :
  DP w wr rd b T (l ++ m) dr E qb gs vL vC v' V rs ks (W2.setCell ⟨qb, 7, none⟩ v') := by
 have h1 := ((h.1.perm (rot3 _ _ _ _)).push (v' := v') (xs' := bls (l ++ m)) (by rw [bls_len, List.length_append, ← bls_append]; exact own) hg hw).perm (rot3 _ _ _ _).symm
 exact ⟨h1.store (j := 7) v' h.2.2, h.2⟩
end
end Go.Proofs.YtflnpcgnenhogaaGreatDoor.ls
namespace Go.Proofs.YtflnpcgnenhogaaGreatDoor.ls
open Go.RowKit Go.Proofs.YtflnpcgnenhogaaGreatDoor.own Go.Proofs.YtflnpcgnenhogaaGreatDoor.bit

theorem edges_leT {k : Nat} : ∀ {G : List (List Nat)}, (∀ l ∈ G, l.length ≤ k) → edges G ≤ k * G.length
 | [], _ => Nat.zero_le _
 | l :: G, h => by
  have h1 := h l (List.mem_cons_self ..)
  have h2 := edges_leT (G := G) (fun x hx => h x (List.mem_cons_of_mem _ hx))
  have e : edges (l :: G) = l.length + edges G := rfl
  rw [e, List.length_cons, Nat.mul_add, Nat.mul_one]
  omega
def okAt (n : Nat) (l : List Nat) (k : Nat) : Prop := ∀ h : k < l.length, l[k] < n ∧ ∀ h0 : 0 < k, l[k - 1]'(by omega) < l[k]
/-- whether a graph may be -/
def GOk (G : List (List Nat)) : Prop := (∀ i (h : i < G.length), ∀ k, okAt G.length G[i] k) ∧ G.length ≤ 65536 ∧ edges G ≤ 1048576
theorem GOk.ris {G : List (List Nat)} (h : GOk G) : (∀ l ∈ G, Ris l) ∧ (∀ l ∈ G, ∀ v ∈ l, v < G.length) := by
 have key : ∀ l ∈ G, ∀ k, okAt G.length l k := fun l hl => by
  obtain ⟨i, hi, rfl⟩ := List.mem_iff_getElem.1 hl
  exact h.1 i hi
 refine ⟨fun l hl => (ris_iff l).2 (fun k hk => ?_), fun l hl v hv => ?_⟩
 ·obtain ⟨h1, h2⟩ := key l hl k hk
  have := h.2.1
  exact ⟨by omega, h2⟩
 ·obtain ⟨k, hk, rfl⟩ := List.mem_iff_getElem.1 hv
  exact (key l hl k hk).1
set_option maxRecDepth 100000 in
set_option maxHeartbeats 3200000 in
theorem graph_all (w : World) (a : Option Addr) (G : List (List Nat)) (cap : Nat) (hA : LLs w a G) (hn : G.length ≤ 1000) (hls : ∀ l ∈ G, l.length < 35184372088832) :
  Calls Tryz.prog 62 #[.slice a G.length cap] w (YesNo (GOk G) w) := by
 have HA := Lib.hid hA
 have HLS := Lib.hid hls
 have HEL : Hid (∀ i, i ≤ G.length → edges (G.take i) ≤ 35184372088832000) := Lib.hid (fun i _ => by
  have h := edges_leT (k := 35184372088832) (G := G.take i) (fun l hl => Nat.le_of_lt (hls l (List.mem_of_mem_take hl)))
  have h2 : (G.take i).length ≤ 1000 := by rw [List.length_take]; omega
  have h3 := Nat.mul_le_mul_left 35184372088832 h2
  omega)
 obtain ⟨n, hnn⟩ : ∃ n, G.length = n := ⟨_, rfl⟩
 have HN := Lib.hid hnn
 have NO : Hid (∀ i k (hi : i < G.length), ¬ okAt n G[i] k → YesNo (GOk G) w (.returned (.bool false)) w) := Lib.hid (fun i k hi h => ⟨false, rfl, ⟨fun e => (by cases e), fun g => absurd (by rw [← hnn]; exact g.1 i hi k) h⟩, rfl⟩)
 have FIN : Hid ((∀ i (h : i < G.length), ∀ k, okAt n G[i] k) → YesNo (GOk G) w (.returned (.bool (decide (edges G ≤ 1048576)))) w) := Lib.hid (fun h => ⟨_, rfl, ⟨fun e => ⟨fun i hi k => by rw [hnn]; exact h i hi k, by omega, of_decide_eq_true e⟩, fun g => decide_eq_true g.2.2⟩, rfl⟩)
 rw [hnn] at hn HEL ⊢
 clear hA hls hnn
 go_enter Tryz.func62, Tryz.ntmps62
 go_wp2_with fail
 go_loopw [3, 10] (fun v3 v10 wr => ∃ i : Nat, v10 = .int .i64 (i : Int) ∧ i ≤ n ∧ v3 = .int .i64 (edges (G.take i) : Int) ∧ (∀ j (h : j < G.length), j < i → ∀ k, okAt n G[j] k) ∧ w = wr) (fun _ v10 _ => n - (intOf v10).toNat)
 case atStart => exact ⟨0, rfl, Nat.zero_le _, by rw [List.take_zero]; rfl, fun j _ h => absurd h (Nat.not_lt_zero _), rfl⟩
 case round =>
  obtain ⟨i, rfl, hi, rfl, hok, rfl⟩ := hrel
  have HOK := Lib.hid hok
  have he9 := HEL.out i hi
  obtain ⟨E, hEE⟩ : ∃ E, edges (G.take i) = E := ⟨_, rfl⟩
  have HEE := Lib.hid hEE
  rw [hEE] at he9 ⊢
  clear hEE hok
  by_cases hlt : i < n
  ·have hiG : i < G.length := by rw [HN.out]; exact hlt
   obtain ⟨g, o, s, d, rfl, hg, hc, hd, hs⟩ := HA.out.2 i hiG
   have hm9 := HLS.out _ (List.getElem_mem hiG)
   have NOI := Lib.hid (fun k => NO.out i k hiG)
   have OKI := Lib.hid (fun (h : ∀ k, okAt n G[i] k) => (fun j (hj : j < G.length) (hji : j < i + 1) => if e : j < i then HOK.out j hj e else (by obtain rfl : j = i := (by omega); exact h) : ∀ j (h : j < G.length), j < i + 1 → ∀ k, okAt n G[j] k))
   obtain ⟨l, hl⟩ : ∃ l, G[i] = l := ⟨_, rfl⟩
   have ES : Hid (edges (G.take (i + 1)) = E + l.length) := Lib.hid (by rw [List.take_succ_eq_append_getElem hiG, edges_snoc, HEE.out, hl])
   rw [hl] at hc hd hs hm9 NOI OKI
   have HS := Lib.hid hs
   obtain ⟨m, hm⟩ : ∃ m, l.length = m := ⟨_, rfl⟩
   have HM := Lib.hid hm
   rw [hm] at hc hd hm9 ES
   have i1 : decide ((i : Int) < (n : Int)) = true := decide_eq_true (by omega)
   clear hl hm hs
   go_wp2_with fail
   go_loopw [20] (fun v20 wr => ∃ k : Nat, v20 = .int .i64 (k : Int) ∧ k ≤ m ∧ (∀ k', k' < k → okAt n l k') ∧ w = wr) (fun v20 _ => m - (intOf v20).toNat)
   case atStart => exact ⟨0, rfl, Nat.zero_le _, fun k' h => absurd h (Nat.not_lt_zero _), rfl⟩
   case round =>
    obtain ⟨k, rfl, hk, hokk, rfl⟩ := hrel
    have HKK := Lib.hid hokk
    clear hokk
    by_cases hkt : k < m
    ·have hkl : k < l.length := by rw [HM.out]; exact hkt
     obtain ⟨g6, o6, rfl, hg6, hc6, hv6⟩ := HS.out.2 k hkl
     obtain ⟨v, hv⟩ : ∃ v, l[k] = v := ⟨_, rfl⟩
     have HV := Lib.hid hv
     rw [hv] at hc6 hv6
     have k1 : decide ((k : Int) < (m : Int)) = true := decide_eq_true (by omega)
     have NXT : Hid (okAt n l k → ∀ k', k' < k + 1 → okAt n l k') := Lib.hid (fun h k' hk' => if e : k' < k then HKK.out k' e else (by obtain rfl : k' = k := (by omega); exact h))
     clear hv
     by_cases hvn : v < n
     ·have k2 : decide ((n : Int) ≤ (v : Int)) = false := decide_eq_false (by omega)
      by_cases h0 : 0 < k
      ·obtain ⟨g7, o7, he, hg7, hc7, hv7⟩ := HS.out.2 (k - 1) (by omega)
       obtain ⟨rfl, rfl⟩ : g6 = g7 ∧ o6 = o7 := by injection he with he; injection he with e1 e2; exact ⟨e1, e2⟩
       obtain ⟨u, hu⟩ : ∃ u, l[k - 1]'(by omega) = u := ⟨_, rfl⟩
       have HU := Lib.hid hu
       rw [hu] at hc7 hv7
       obtain ⟨q, hq⟩ : ∃ q, k - 1 = q := ⟨_, rfl⟩
       rw [hq] at hc7
       have k3 : decide ((0 : Int) < (k : Int)) = true := decide_eq_true (by omega)
       have k3n : decide (0 < k) = true := decide_eq_true h0
       have w1 : IntKind.i64.wrap ((k : Int) - 1) = (q : Int) := by rw [IntWalk.i64_in _ (by omega)]; omega
       have q1 : (q : Int) < (m : Int) := by omega
       have q2 : (0 : Int) ≤ (q : Int) := Int.natCast_nonneg _
       clear hu he hq
       by_cases huv : u < v
       ·have k4 : decide ((v : Int) ≤ (u : Int)) = false := decide_eq_false (by omega)
        have k4n : decide (v ≤ u) = false := decide_eq_false (by omega)
        have OK : Hid (okAt n l k) := Lib.hid (fun h => ⟨by rw [HV.out]; exact hvn, fun _ => by rw [HV.out, HU.out]; exact huv⟩)
        go_wp2_with fail
        go_roundw
        case rel => exact ⟨k + 1, by go_num, by omega, NXT.out OK.out, by trivial⟩
        case measure => simp [intOf]; omega
       ·have k4 : decide ((v : Int) ≤ (u : Int)) = true := decide_eq_true (by omega)
        have k4n : decide (v ≤ u) = true := decide_eq_true (by omega)
        have OK : Hid (¬ okAt n l k) := Lib.hid (fun h => by
         have := (h (by omega)).2 h0
         rw [HV.out, HU.out] at this
         exact huv this)
        go_wp2_with fail
        exact bodyPost_ret (v := .bool false) (by simp [results, Tryz.results62, go_sem]) rfl (NOI.out k OK.out)
      ·have k3 : decide ((0 : Int) < (k : Int)) = false := decide_eq_false (by omega)
       have k3n : decide (0 < k) = false := decide_eq_false h0
       have OK : Hid (okAt n l k) := Lib.hid (fun h => ⟨by rw [HV.out]; exact hvn, fun h1 => absurd h1 h0⟩)
       go_wp2_with fail
       go_roundw
       case rel => exact ⟨k + 1, by go_num, by omega, NXT.out OK.out, by trivial⟩
       case measure => simp [intOf]; omega
     ·have k2 : decide ((n : Int) ≤ (v : Int)) = true := decide_eq_true (by omega)
      have OK : Hid (¬ okAt n l k) := Lib.hid (fun h => by
       have := (h (by omega)).1
       rw [HV.out] at this
       exact hvn this)
      go_wp2_with fail
      exact bodyPost_ret (v := .bool false) (by simp [results, Tryz.results62, go_sem]) rfl (NOI.out k OK.out)
    ·have k1 : decide ((k : Int) < (m : Int)) = false := decide_eq_false (by omega)
     have ALL : Hid (∀ k', okAt n l k') := Lib.hid (fun k' h => HKK.out k' (by have := HM.out; omega) h)
     go_wp2_with fail
     go_roundw
     case rel => exact ⟨i + 1, by go_num, by omega, by rw [ES.out]; simp, OKI.out ALL.out, by trivial⟩
     case measure => simp [intOf]; omega
  ·have i1 : decide ((i : Int) < (n : Int)) = false := decide_eq_false (by omega)
   have i2 : decide ((n : Int) ≤ 65536) = true := decide_eq_true (by omega)
   have F := Lib.hid (FIN.out (fun j hj => HOK.out j hj (by have := HN.out; omega)))
   have e : G.take i = G := List.take_of_length_le (by rw [HN.out]; omega)
   have hee := HEE.out
   rw [e] at hee
   rw [hee] at F
   clear e hee
   by_cases hE : E ≤ 1048576
   ·have i3 : decide ((E : Int) ≤ 1048576) = true := decide_eq_true (by omega)
    rw [decide_eq_true hE] at F
    go_wp2_with fail
    exact bodyPost_ret (v := .bool true) (by simp [results, Tryz.results62, go_sem]) rfl F.out
   ·have i3 : decide ((E : Int) ≤ 1048576) = false := decide_eq_false (by omega)
    rw [decide_eq_false hE] at F
    go_wp2_with fail
    exact bodyPost_ret (v := .bool false) (by simp [results, Tryz.results62, go_sem]) rfl F.out
end Go.Proofs.YtflnpcgnenhogaaGreatDoor.ls
namespace Go.Proofs.YtflnpcgnenhogaaGreatDoor.ls
open Go.RowKit Go.Proofs.YtflnpcgnenhogaaGreatDoor.own Go.Proofs.YtflnpcgnenhogaaGreatDoor.bit

def YesNoD (P : Prop) (w : World) (e : Ending) (w' : World) : Prop := ∃ b : Bool, e = .returned (.bool b) ∧ (b = true ↔ P) ∧ ∃ q, w' = w.drewN q
set_option maxRecDepth 100000 in
set_option maxHeartbeats 1600000 in
theorem dsucc_drew (w : World) (a : Option Addr) (l : List Nat) (cap : Nat) (h : LV w a l) : Calls Tryz.prog 53 #[.slice a l.length cap] w (YesNoD (Ris l) w) := by
 have H := Lib.hid h.2
 have hz := h.1
 have R := Lib.hid (ris_iff l)
 clear h
 obtain ⟨n, hn⟩ : ∃ n, l.length = n := ⟨_, rfl⟩
 have HN := Lib.hid hn
 rw [hn] at hz ⊢
 clear hn
 go_enter Tryz.func53, Tryz.ntmps53
 go_wp2_with fail
 go_loopw [3] (fun vi wr => ∃ i : Nat, vi = .int .i64 (i : Int) ∧ i ≤ n ∧ (∃ q, wr = w.drewN q) ∧ ∀ j (hj : j < l.length), j < i → l[j] < 65536 ∧ ∀ h0 : 0 < j, l[j - 1] < l[j]) (fun vi _ => n - (intOf vi).toNat)
 case atStart => exact ⟨0, rfl, Nat.zero_le _, ⟨0, rfl⟩, fun j _ h => by omega⟩
 case round =>
  obtain ⟨i, rfl, hi, ⟨q, rfl⟩, hj⟩ := hrel
  have HJ := Lib.hid hj
  clear hj
  by_cases hlt : i < n
  ·obtain ⟨g, o, rfl, hg, hc, hb⟩ := H.out i (by rw [HN.out]; exact hlt)
   obtain ⟨v, hv⟩ : ∃ v, l[i]'(by rw [HN.out]; exact hlt) = v := ⟨_, rfl⟩
   rw [hv] at hc hb
   have HV := Lib.hid hv
   have i1 : decide ((i : Int) < (n : Int)) = true := decide_eq_true (by omega)
   by_cases h65 : v < 65536
   ·have j1 : decide ((65536 : Int) ≤ (v : Int)) = false := decide_eq_false (by omega)
    by_cases h0 : 0 < i
    ·obtain ⟨g', o', he, hg', hc', hb'⟩ := H.out (i - 1) (by rw [HN.out]; omega)
     obtain ⟨rfl, rfl⟩ : g' = g ∧ o' = o := by injection he with he; injection he with e1 e2; exact ⟨e1.symm, e2.symm⟩
     obtain ⟨u, hu⟩ : ∃ u, l[i - 1]'(by rw [HN.out]; omega) = u := ⟨_, rfl⟩
     rw [hu] at hc' hb'
     have HU := Lib.hid hu
     have j2 : decide ((0 : Int) < (i : Int)) = true := decide_eq_true (by omega)
     have j2n : decide (0 < i) = true := decide_eq_true h0
     have j3 : IntKind.i64.wrap ((i : Int) - 1) = ((i - 1 : Nat) : Int) := by rw [IntWalk.i64_in _ (by omega)]; omega
     have j4 : ((i - 1 : Nat) : Int) < (n : Int) := by omega
     have j5 : (0 : Int) ≤ ((i - 1 : Nat) : Int) := Int.natCast_nonneg _
     clear hv hu he
     by_cases huv : u < v
     ·have j6 : decide ((v : Int) ≤ (u : Int)) = false := decide_eq_false (by omega)
      go_upto_region 4 with fail
      go_quiet (fail)
      go_wp2_with fail
      go_roundw
      case rel =>
       refine ⟨i + 1, by go_num, by omega, ⟨_, (by first | rfl | exact drewN_add _ _ _)⟩, fun j hj hji => ?_⟩
       by_cases hji2 : j = i
       ·subst hji2
        have e1 := HV.out
        have e2 := HU.out
        exact ⟨by omega, fun _ => by omega⟩
       ·exact HJ.out j hj (by omega)
      case measure => simp [intOf]; omega
     ·have j6 : decide ((v : Int) ≤ (u : Int)) = true := decide_eq_true (by omega)
      go_upto_region 4 with fail
      go_quiet (fail)
      go_wp2_with fail
      go_ret
      refine ⟨false, rfl, ?_, ⟨_, (by first | rfl | exact drewN_add _ _ _)⟩⟩
      rw [R.out]
      refine ⟨fun h => (by cases h), fun h => ?_⟩
      have h1 := (h i (by rw [HN.out]; exact hlt)).2 h0
      have e1 := HV.out
      have e2 := HU.out
      omega
    ·have j2 : decide ((0 : Int) < (i : Int)) = false := decide_eq_false (by omega)
     have j2n : decide (0 < i) = false := decide_eq_false h0
     clear hv
     go_upto_region 4 with fail
     go_quiet (fail)
     go_wp2_with fail
     go_roundw
     case rel =>
      refine ⟨i + 1, by go_num, by omega, ⟨_, (by first | rfl | exact drewN_add _ _ _)⟩, fun j hj hji => ?_⟩
      by_cases hji2 : j = i
      ·subst hji2
       have e1 := HV.out
       exact ⟨by omega, fun h => absurd h h0⟩
      ·exact HJ.out j hj (by omega)
     case measure => simp [intOf]; omega
   ·have j1 : decide ((65536 : Int) ≤ (v : Int)) = true := decide_eq_true (by omega)
    clear hv
    go_upto_region 4 with fail
    go_quiet (fail)
    go_wp2_with fail
    go_ret
    refine ⟨false, rfl, ?_, ⟨_, (by first | rfl | exact drewN_add _ _ _)⟩⟩
    rw [R.out]
    refine ⟨fun h => (by cases h), fun h => ?_⟩
    have h1 := (h i (by rw [HN.out]; exact hlt)).1
    have e1 := HV.out
    omega
  ·have i1 : decide ((i : Int) < (n : Int)) = false := decide_eq_false (by omega)
   go_wp2_with fail
   go_ret
   refine ⟨true, rfl, ?_, ⟨_, (by first | rfl | exact drewN_add _ _ _)⟩⟩
   rw [R.out]
   exact ⟨fun _ j hj => HJ.out j hj (by rw [HN.out] at hj; omega), fun _ => rfl⟩

theorem good_iff {n : Nat} (hn : n ≤ 65536) (l : List Nat) : (∀ k, okAt n l k) ↔ Ris l ∧ ∀ h : 0 < l.length, l[l.length - 1] < n := by
 constructor
 ·intro h
  refine ⟨(ris_iff l).2 (fun k hk => ⟨by have := (h k hk).1; omega, (h k hk).2⟩), fun h0 => (h (l.length - 1) (by omega)).1⟩
 ·rintro ⟨h1, h2⟩ k hk
  refine ⟨?_, ((ris_iff l).1 h1 k hk).2⟩
  have h0 : 0 < l.length := by omega
  exact (ris_last h1 h0 n).2 (h2 h0) _ (List.getElem_mem hk)
set_option maxRecDepth 100000 in
set_option maxHeartbeats 6400000 in
theorem dgraph_all (w : World) (a : Option Addr) (G : List (List Nat)) (cap : Nat) (hA : LLs w a G) (hn : G.length ≤ 1000) (hls : ∀ l ∈ G, l.length < 35184372088832) :
  Calls Tryz.prog 63 #[.slice a G.length cap] w (YesNoB (GOk G) w) := by
 have HA := Lib.hid hA
 have HLS := Lib.hid hls
 have HEL : Hid (∀ i, i ≤ G.length → edges (G.take i) ≤ 35184372088832000) := Lib.hid (fun i _ => by
  have h := edges_leT (k := 35184372088832) (G := G.take i) (fun l hl => Nat.le_of_lt (hls l (List.mem_of_mem_take hl)))
  have h2 : (G.take i).length ≤ 1000 := by rw [List.length_take]; omega
  have h3 := Nat.mul_le_mul_left 35184372088832 h2
  omega)
 have KD : Hid (∀ q, Below w.heap.size w (w.drewN q)) := Lib.hid (fun q => ⟨rfl, rfl, rfl, Nat.le_refl _, fun _ _ => rfl⟩)
 obtain ⟨n, hnn⟩ : ∃ n, G.length = n := ⟨_, rfl⟩
 have HN := Lib.hid hnn
 have NO : Hid (∀ i (hi : i < G.length) q, ¬ (∀ k, okAt n G[i] k) → YesNoB (GOk G) w (.returned (.bool false)) (w.drewN q)) := Lib.hid (fun i hi q h => ⟨false, rfl, ⟨fun e => (by cases e), fun g => absurd (by rw [← hnn]; exact g.1 i hi) h⟩, KD.out q⟩)
 have FIN : Hid ((∀ i (h : i < G.length), ∀ k, okAt n G[i] k) → ∀ q, YesNoB (GOk G) w (.returned (.bool (decide (edges G ≤ 1048576)))) (w.drewN q)) := Lib.hid (fun h q => ⟨_, rfl, ⟨fun e => ⟨fun i hi k => by rw [hnn]; exact h i hi k, by omega, of_decide_eq_true e⟩, fun g => decide_eq_true g.2.2⟩, KD.out q⟩)
 rw [hnn] at hn HEL ⊢
 clear hA hls hnn
 go_enter Tryz.func63, Tryz.ntmps63
 go_wp2_with fail
 go_loopw [3, 4] (fun v3 v4 wr => ∃ i q : Nat, v4 = .int .i64 (i : Int) ∧ i ≤ n ∧ v3 = .int .i64 (edges (G.take i) : Int) ∧ (∀ j (h : j < G.length), j < i → ∀ k, okAt n G[j] k) ∧ wr = w.drewN q) (fun _ v4 _ => n - (intOf v4).toNat)
 case atStart => exact ⟨0, 0, rfl, Nat.zero_le _, by rw [List.take_zero]; rfl, fun j _ h => absurd h (Nat.not_lt_zero _), rfl⟩
 case round =>
  obtain ⟨i, q, rfl, hi, rfl, hok, rfl⟩ := hrel
  have HOK := Lib.hid hok
  have he9 := HEL.out i hi
  obtain ⟨E, hEE⟩ : ∃ E, edges (G.take i) = E := ⟨_, rfl⟩
  have HEE := Lib.hid hEE
  rw [hEE] at he9 ⊢
  clear hEE hok
  by_cases hlt : i < n
  ·have hiG : i < G.length := by rw [HN.out]; exact hlt
   obtain ⟨g, o, s, d, rfl, hg, hc, hd, hs⟩ := HA.out.2 i hiG
   have hm9 := HLS.out _ (List.getElem_mem hiG)
   have NOI := Lib.hid (NO.out i hiG)
   have OKI := Lib.hid (fun (h : ∀ k, okAt n G[i] k) => (fun j (hj : j < G.length) (hji : j < i + 1) => if e : j < i then HOK.out j hj e else (by obtain rfl : j = i := (by omega); exact h) : ∀ j (h : j < G.length), j < i + 1 → ∀ k, okAt n G[j] k))
   obtain ⟨l, hl⟩ : ∃ l, G[i] = l := ⟨_, rfl⟩
   have ES : Hid (edges (G.take (i + 1)) = E + l.length) := Lib.hid (by rw [List.take_succ_eq_append_getElem hiG, edges_snoc, HEE.out, hl])
   rw [hl] at hc hd hs hm9 NOI OKI
   have HS := Lib.hid hs
   obtain ⟨wq, hwq⟩ : ∃ z, w.drewN q = z := ⟨_, rfl⟩
   have HWQ := Lib.hid hwq
   rw [hwq]
   have hc : wq.cell? ⟨g, o + i, none⟩ = some (.slice s l.length d) := by rw [← hwq]; exact hc
   have SU := Lib.hid (fun p => dsucc_drew (wq.drewN p) s l d (by rw [← hwq, World.drewN_drewN]; exact hs.below (KD.out _)))
   obtain ⟨m, hm⟩ : ∃ m, l.length = m := ⟨_, rfl⟩
   have HM := Lib.hid hm
   rw [hm] at hc hd hm9 ES SU
   have i1 : decide ((i : Int) < (n : Int)) = true := decide_eq_true (by omega)
   clear hl hm hs hwq
   have GI := Lib.hid (good_iff (n := n) (by omega) l)
   go_upto_region 6 with fail
   by_cases hR : Ris l
   ·have SY : Hid (∀ q, Calls Tryz.prog 53 #[.slice s m d] (wq.drewN q) fun e w' => e = .returned (.bool true) ∧ ∃ k, w' = (wq.drewN q).drewN k) := Lib.hid (fun q => (SU.out q).mono (by
     rintro e w' ⟨b, rfl, hb, k⟩
     obtain rfl := hb.2 hR
     exact ⟨rfl, k⟩))
    clear SU
    by_cases h0 : 0 < m
    ·obtain ⟨q1, hq1⟩ : ∃ z, m - 1 = z := ⟨_, rfl⟩
     have hql : q1 < l.length := by rw [HM.out]; omega
     obtain ⟨g7, o7, rfl, hg7, hc7, hv7⟩ := HS.out.2 q1 hql
     obtain ⟨v, hv⟩ : ∃ v, l[q1] = v := ⟨_, rfl⟩
     rw [hv] at hc7 hv7
     have hc7 : wq.cell? ⟨g7, o7 + q1, none⟩ = some (.int .u32 (v : Int)) := by rw [← HWQ.out]; exact hc7
     have HV : Hid (∀ h : 0 < l.length, l[l.length - 1] = v) := Lib.hid (fun h => by
      have : l.length - 1 = q1 := by rw [HM.out]; exact hq1
      simp only [this]
      exact hv)
     have j1 : decide ((0 : Int) < (m : Int)) = true := decide_eq_true (by omega)
     have j1n : decide (0 < m) = true := decide_eq_true h0
     have w1 : IntKind.i64.wrap ((m : Int) - 1) = (q1 : Int) := by rw [IntWalk.i64_in _ (by omega)]; omega
     have b1 : (q1 : Int) < (m : Int) := by omega
     have b2 : (0 : Int) ≤ (q1 : Int) := Int.natCast_nonneg _
     clear hv hq1
     by_cases hvn : v < n
     ·have j2 : decide ((n : Int) ≤ (v : Int)) = false := decide_eq_false (by omega)
      have j2n : decide (n ≤ v) = false := decide_eq_false (by omega)
      have OK := Lib.hid (GI.out.2 ⟨hR, fun h => by rw [HV.out h]; exact hvn⟩)
      go_quiet (first | (go_at_call 53; with_reducible exact Calls.quiet_of (SY.out _)))
      go_wp2_with fail
      go_roundw
      case rel => exact ⟨i + 1, _, by go_num, by omega, by rw [ES.out]; simp, OKI.out OK.out, (by rw [← HWQ.out, World.drewN_drewN])⟩
      case measure => simp [intOf]; omega
     ·have j2 : decide ((n : Int) ≤ (v : Int)) = true := decide_eq_true (by omega)
      have j2n : decide (n ≤ v) = true := decide_eq_true (by omega)
      have OK : Hid (¬ ∀ k, okAt n l k) := Lib.hid (fun h => by
       have h3 : 0 < l.length := by rw [HM.out]; exact h0
       have h2 := (GI.out.1 h).2 h3
       rw [HV.out h3] at h2
       exact hvn h2)
      go_quiet (first | (go_at_call 53; with_reducible exact Calls.quiet_of (SY.out _)))
      go_wp2_with fail
      exact bodyPost_ret (v := .bool false) (by simp [results, Tryz.results63, go_sem]) rfl (by rw [← HWQ.out, World.drewN_drewN]; exact NOI.out _ OK.out)
    ·have j1 : decide ((0 : Int) < (m : Int)) = false := decide_eq_false (by omega)
     have j1n : decide (0 < m) = false := decide_eq_false h0
     have OK := Lib.hid (GI.out.2 ⟨hR, fun h => absurd h (by rw [HM.out]; exact h0)⟩)
     go_quiet (first | (go_at_call 53; with_reducible exact Calls.quiet_of (SY.out _)))
     go_wp2_with fail
     go_roundw
     case rel => exact ⟨i + 1, _, by go_num, by omega, by rw [ES.out]; simp, OKI.out OK.out, (by rw [← HWQ.out, World.drewN_drewN])⟩
     case measure => simp [intOf]; omega
   ·have SY : Hid (∀ q, Calls Tryz.prog 53 #[.slice s m d] (wq.drewN q) fun e w' => e = .returned (.bool false) ∧ ∃ k, w' = (wq.drewN q).drewN k) := Lib.hid (fun q => (SU.out q).mono (by
     rintro e w' ⟨b, rfl, hb, k⟩
     cases b with
     | false => exact ⟨rfl, k⟩
     | true => exact absurd (hb.1 rfl) hR))
    have OK : Hid (¬ ∀ k, okAt n l k) := Lib.hid (fun h => hR (GI.out.1 h).1)
    clear SU
    go_quiet (first | (go_at_call 53; with_reducible exact Calls.quiet_of (SY.out _)))
    go_wp2_with fail
    exact bodyPost_ret (v := .bool false) (by simp [results, Tryz.results63, go_sem]) rfl (by rw [← HWQ.out, World.drewN_drewN]; exact NOI.out _ OK.out)
  ·have i1 : decide ((i : Int) < (n : Int)) = false := decide_eq_false (by omega)
   have i2 : decide ((n : Int) ≤ 65536) = true := decide_eq_true (by omega)
   have F := Lib.hid (FIN.out (fun j hj => HOK.out j hj (by have := HN.out; omega)))
   have e : G.take i = G := List.take_of_length_le (by rw [HN.out]; omega)
   have hee := HEE.out
   rw [e] at hee
   rw [hee] at F
   clear e hee
   by_cases hE : E ≤ 1048576
   ·have i3 : decide ((E : Int) ≤ 1048576) = true := decide_eq_true (by omega)
    rw [decide_eq_true hE] at F
    go_wp2_with fail
    exact bodyPost_ret (v := .bool true) (by simp [results, Tryz.results63, go_sem]) rfl (F.out _)
   ·have i3 : decide ((E : Int) ≤ 1048576) = false := decide_eq_false (by omega)
    rw [decide_eq_false hE] at F
    go_wp2_with fail
    exact bodyPost_ret (v := .bool false) (by simp [results, Tryz.results63, go_sem]) rfl (F.out _)
end Go.Proofs.YtflnpcgnenhogaaGreatDoor.ls
namespace Go.Proofs.YtflnpcgnenhogaaGreatDoor.ls
open Go.RowKit Go.Proofs.YtflnpcgnenhogaaGreatDoor.own Go.Proofs.YtflnpcgnenhogaaGreatDoor.bit

section
variable {w W W2 : World} {wr : Option (Nat × Bits)} {rd : Option (Nat × ByteArray × Nat)} {b : Bp} {T : List Tk} {l : Bits} {dr E qb : Nat} {gs : List (Nat × Obj)} {vL vC vB : Value} {V : List Value} {rs : List Rw} {ks : List (Nat × Obj)}
theorem DP.keepB (h : DP w wr rd b T l dr E qb gs vL vC vB V rs ks W) (hg : W.grownBy W2 vB.ownBlock) : W2.heap[qb]? = some (.cells (dpRow b vL vC vB dr E) 87 (0, 0)) := by
 obtain ⟨ka, h1, h2, h3, h4⟩ := h.1.perm (rot3 _ _ _ _)
 exact (hg.block _ (lt_of_block h.row) (h3 (qb, _) (List.mem_cons_self ..))).trans h.row
theorem DP.keepL (h : DP w wr rd b T l dr E qb gs vL vC vB V rs ks W) (hg : W.grownBy W2 vL.ownBlock) : W2.heap[qb]? = some (.cells (dpRow b vL vC vB dr E) 87 (0, 0)) := by
 obtain ⟨ka, h1, h2, h3, h4⟩ := h.1
 exact (hg.block _ (lt_of_block h.row) (h3 (qb, _) (List.mem_cons_self ..))).trans h.row
end
theorem row_cells {W : World} {qb : Nat} {b : Bp} {vL vC vB : Value} {dr E : Nat} (r : W.heap[qb]? = some (.cells (dpRow b vL vC vB dr E) 87 (0, 0))) : W.cell? ⟨qb, 5, none⟩ = some vL ∧ W.cell? ⟨qb, 6, none⟩ = some vC ∧ W.cell? ⟨qb, 7, none⟩ = some vB ∧ W.cell? ⟨qb, 9, none⟩ = some (.int .i64 (E : Int)) ∧ ∀ j, W.frozen? ⟨qb, j, none⟩ = false :=
 ⟨by rw [cell_of_row _ _ _ _ _ _ r]; rfl, by rw [cell_of_row _ _ _ _ _ _ r]; rfl, by rw [cell_of_row _ _ _ _ _ _ r]; rfl, by rw [cell_of_row _ _ _ _ _ _ r]; rfl, fun j => frozen_of_row W qb j _ _ r⟩
/-- the same, its rows not told of one list -/
def DPr (w : World) (wr : Option (Nat × Bits)) (rd : Option (Nat × ByteArray × Nat)) (b : Bp) (vL : Value) (V : List Value) (vC : Value) (cs : List Value) (vB : Value) (l : Bits) (dr E qb : Nat) (gs : List (Nat × Obj)) (rs : List Rw) (ks : List (Nat × Obj)) (W : World) : Prop :=
 Rws w wr rd (⟨34, vL, V⟩ :: ⟨3, vC, cs⟩ :: ⟨4, vB, bls l⟩ :: rs) ((qb, .cells (dpRow b vL vC vB dr E) 87 (0, 0)) :: (gs ++ ks)) W ∧ ∀ p ∈ gs ++ ks, p.1 ≠ qb
section
variable {w W W2 : World} {wr : Option (Nat × Bits)} {rd : Option (Nat × ByteArray × Nat)} {b : Bp} {T : List Tk} {l : Bits} {dr E qb : Nat} {gs kl : List (Nat × Obj)} {vL vC vB : Value} {V cs : List Value} {rs : List Rw} {ks : List (Nat × Obj)}
theorem DP.lists (h : DP w wr rd b T l dr E qb gs vL vC vB V rs ks W) (k : Below W.heap.size W W2) (hk : ∀ p ∈ kl, W.heap.size ≤ p.1 ∧ W2.heap[p.1]? = some p.2) : DP w wr rd b T l dr E qb (kl ++ gs) vL vC vB V rs ks W2 := by
 have hq := lt_of_block h.row
 refine ⟨(h.1.more (js := kl) k hk).sub (fun p hp => ?_), h.2.1.more (fun p hp => List.mem_append_right _ hp), fun p hp => ?_⟩
 ·simp only [List.mem_cons, List.mem_append] at hp ⊢
  rcases hp with hp | (hp | hp) | hp
  ·exact .inr (.inl hp)
  ·exact .inl hp
  ·exact .inr (.inr (.inl hp))
  ·exact .inr (.inr (.inr hp))
 ·simp only [List.mem_append] at hp
  rcases hp with (hp | hp) | hp
  ·have := (hk p hp).1
   omega
  ·exact h.2.2 p (List.mem_append_left _ hp)
  ·exact h.2.2 p (List.mem_append_right _ hp)
theorem DP.putL (h : DP w wr rd b T l dr E qb gs vL vC vB V rs ks W) {v' : Value} {x : Value} (own : W2.ownsRow 0 34 1 v' (T.length + 1) (V ++ [x])) (hg : W.grownBy W2 vL.ownBlock) (hw : v'.ownBlock = vL.ownBlock ∨ v'.ownBlock = some W.heap.size) :
  DPr w wr rd b v' (V ++ [x]) vC (chV T) vB l dr E qb gs rs ks (W2.setCell ⟨qb, 5, none⟩ v') := by
 have hl := h.2.1.1
 rw [List.length_map] at hl
 exact ⟨(h.1.push (v' := v') (xs' := V ++ [x]) (by rw [List.length_append, hl]; exact own) hg hw).store (j := 5) v' h.2.2, h.2.2⟩
theorem DPr.row (h : DPr w wr rd b vL V vC cs vB l dr E qb gs rs ks W) : W.heap[qb]? = some (.cells (dpRow b vL vC vB dr E) 87 (0, 0)) := h.1.has (List.mem_cons_self ..)
theorem DPr.next (h : DPr w wr rd b vL V vC cs vB l dr E qb gs rs ks W) (k : Below W.heap.size W W2) : DPr w wr rd b vL V vC cs vB l dr E qb gs rs ks W2 := ⟨h.1.next k, h.2⟩
theorem DPr.ownC (h : DPr w wr rd b vL V vC cs vB l dr E qb gs rs ks W) : W.ownsRow 0 3 1 vC cs.length cs := h.1.swap.own
theorem DPr.keepC (h : DPr w wr rd b vL V vC cs vB l dr E qb gs rs ks W) (hg : W.grownBy W2 vC.ownBlock) : W2.heap[qb]? = some (.cells (dpRow b vL vC vB dr E) 87 (0, 0)) := by
 obtain ⟨ka, h1, h2, h3, h4⟩ := h.1.swap
 exact (hg.block _ (lt_of_block h.row) (h3 (qb, _) (List.mem_cons_self ..))).trans h.row
theorem DPr.putC (h : DPr w wr rd b vL V vC cs vB l dr E qb gs rs ks W) {v' x : Value} (own : W2.ownsRow 0 3 1 v' (cs.length + 1) (cs ++ [x])) (hg : W.grownBy W2 vC.ownBlock) (hw : v'.ownBlock = vC.ownBlock ∨ v'.ownBlock = some W.heap.size) :
  DPr w wr rd b vL V v' (cs ++ [x]) vB l dr E qb gs rs ks (W2.setCell ⟨qb, 6, none⟩ v') :=
 ⟨((h.1.swap.push (v' := v') (xs' := cs ++ [x]) (by rw [List.length_append]; exact own) hg hw).swap).store (j := 6) v' h.2, h.2⟩
theorem DPr.putE (h : DPr w wr rd b vL V vC cs vB l dr E qb gs rs ks W) (E' : Nat) : DPr w wr rd b vL V vC cs vB l dr E' qb gs rs ks (W.setCell ⟨qb, 9, none⟩ (.int .i64 (E' : Int))) :=
 ⟨h.1.store (j := 9) (.int .i64 (E' : Int)) h.2, h.2⟩
end
/-- what Add answers where a list may be -/
def DAddP (w : World) (wr : Option (Nat × Bits)) (rd : Option (Nat × ByteArray × Nat)) (b : Bp) (T : List Tk) (l : Bits) (dr E qb : Nat) (succ : List Nat) (rs : List Rw) (ks : List (Nat × Obj)) (e : Ending) (w' : World) : Prop :=
 e = .returned (.tuple #[.int .i64 ((pickB b T succ).2.1 : Int), .int .i64 ((pickB b T succ).1 : Int), .int .i64 0]) ∧ ∃ gs vL vC vB V, DP w wr rd b (T ++ [putB b T succ]) (l ++ addB b T succ) dr (E + succ.length) qb gs vL vC vB V rs ks w'
set_option maxRecDepth 100000 in
set_option maxHeartbeats 12800000 in
theorem dadd_yes {w W : World} {wr : Option (Nat × Bits)} {rd : Option (Nat × ByteArray × Nat)} {b : Bp} {T : List Tk} {l : Bits} {dr E qb : Nat} {gs : List (Nat × Obj)} {vL vC vB : Value} {V : List Value} {rs : List Rw} {ks : List (Nat × Obj)}
  (h : DP w wr rd b T l dr E qb gs vL vC vB V rs ks W) (hb : b.p.ok) (hdp : b.depth ≤ 16) (hx : T.length < 65536) (hT : TOk T) (a : Option Addr) (succ : List Nat) (cap : Nat) (hc : succ.length ≤ cap) (hs : Ris succ) (hA : LV w a succ) (hE : E + succ.length ≤ 1048576) (hl : l.length + (addB b T succ).length ≤ 1000000000) :
  Calls Tryz.prog 38 #[.pointer (some ⟨qb, 0, none⟩), .slice a succ.length cap] W (DAddP w wr rd b T l dr E qb succ rs ks) := by
 obtain ⟨j0, hj, hj0, hj1, hj2⟩ := info_parts Tryz.infoU32
 obtain ⟨g0, hg, hg0, hg1, hg2⟩ := info_parts Tryz.infoU32s
 obtain ⟨b0, hb0, hbz0, hbz1, hbz2⟩ := info_parts Tryz.infoBool
 obtain ⟨i0, hi, hi0, hi1, hi2⟩ := info_parts Tryz.infoInt
 have hs9 := hs.len
 obtain ⟨aL, dL, aC, dC, rfl, rfl, hdL, hdC, hv⟩ := h.view (by omega)
 have H := Lib.hid h
 have HV := Lib.hid (fun W' (k : Below W.heap.size W W') => hv.next k)
 have HAw := Lib.hid (fun W' (k : Below w.heap.size w W') => hA.below k)
 have HA := Lib.hid (fun W' (k : Below W.heap.size W W') => hA.below (h.below.trans (k.mono h.below.size)))
 have HT := Lib.hid hT
 have HS := Lib.hid hs
 have HB := Lib.hid hb
 have SU := Lib.hid (fun W' (k : Below W.heap.size W W') => dsucc_any W' a succ cap (HA.out W' k))
 have BE := Lib.hid (fun W' (k : Below W.heap.size W W') => dbest_any W' (hv.next k) hdL hdC hb hx hT a succ cap hc hs (HA.out W' k))
 have BL := Lib.hid (fun W' => dblist_any (b.p.win : Int) (b.depth : Int) (b.p.itv : Int) (b.p.zet : Int) (b.cap : Int) W')
 have PB := Lib.hid (pickB_ok b T succ)
 have LD := Lib.hid (fun W' (k : Below W.heap.size W W') (o : Option Addr) (other : List Nat) (co r : Nat) (ho : other.length ≤ co) (hm : MayN T.length succ other r b.p) (hB : LV W' o other) => dlaid_any b.p T.length W' a succ cap o other co r hc ho hm (HA.out W' k) hB)
 obtain ⟨m, hm⟩ : ∃ z, succ.length = z := ⟨_, rfl⟩
 have HM := Lib.hid hm
 obtain ⟨nt, hnt⟩ : ∃ z, T.length = z := ⟨_, rfl⟩
 have HNT := Lib.hid hnt
 rw [hm] at hc hs9 LD SU BE hE ⊢
 rw [hnt] at hdL hdC hx LD
 have VC : Hid (∀ W', Below W.heap.size W W' → W'.cell? ⟨qb, 0, none⟩ = some (.int .i64 (b.p.win : Int)) ∧ W'.cell? ⟨qb, 1, none⟩ = some (.int .i64 (b.depth : Int)) ∧ W'.cell? ⟨qb, 2, none⟩ = some (.int .i64 (b.p.itv : Int)) ∧ W'.cell? ⟨qb, 3, none⟩ = some (.int .i64 (b.p.zet : Int)) ∧ W'.cell? ⟨qb, 4, none⟩ = some (.int .i64 (b.cap : Int)) ∧ W'.cell? ⟨qb, 5, none⟩ = some (.slice aL nt dL) ∧ W'.cell? ⟨qb, 6, none⟩ = some (.slice aC nt dC) ∧ W'.cell? ⟨qb, 7, none⟩ = some vB ∧ W'.cell? ⟨qb, 9, none⟩ = some (.int .i64 (E : Int))) := Lib.hid (fun W' k => by
  have h := hv.next k
  exact ⟨h.p0, h.p1, h.p2, h.p3, h.p4, by rw [← hnt]; exact h.cL, by rw [← hnt]; exact h.cC, h.cB, h.cE⟩)
 unfold parV at BL LD
 unfold bpV at BL
 clear h hv hT hs hA hm hnt hb
 have K0 := Below.refl W.heap.size W
 obtain ⟨p0, p1, p2, p3, p4, p5, p6, p7, p9⟩ := VC.out _ K0
 have SU0 := Lib.hid (SU.out _ K0)
 have i1 : decide ((65536 : Int) ≤ (nt : Int)) = false := decide_eq_false (by omega)
 have i1n : decide (65536 ≤ nt) = false := decide_eq_false (by omega)
 have i2 : decide ((1048576 : Int) < (E : Int) + (m : Int)) = false := decide_eq_false (by omega)
 go_enter Tryz.func38, Tryz.ntmps38
 go_wp2_with fail
 with_reducible refine SU0.out.mono ?_
 rintro e w1 ⟨b1, rfl, hb1, k1⟩
 obtain rfl := hb1.2 HS.out
 have K1 := Lib.hid k1
 clear p0 p1 p2 p3 p4 p5 p6 p7 p9 k1 K0 hb1 SU0 SU
 obtain ⟨p0, p1, p2, p3, p4, p5, p6, p7, p9⟩ := VC.out _ K1.out
 have BE1 := Lib.hid (BE.out _ K1.out)
 go_wp2_with fail
 with_reducible refine BE1.out.mono ?_
 rintro e w2 ⟨rfl, k2⟩
 have K2 := Lib.hid (K1.out.trans (k2.mono K1.out.size))
 clear p0 p1 p2 p3 p4 p5 p6 p7 p9 k2 BE1 BE i1 i1n i2
 have hmq := PB.out.may HB.out (by rw [HNT.out]; exact hx) HS.out HT.out
 obtain ⟨q, hq⟩ : ∃ q, pickB b T succ = q := ⟨_, rfl⟩
 have ADDB : Hid (addB b T succ = lay T.length succ q.2.2.1 q.2.1 b.p) := Lib.hid (by rw [← hq]; rfl)
 have PUTB : Hid (putB b T succ = (succ, chainOf q)) := Lib.hid (by rw [← hq]; rfl)
 rw [hq] at hmq PB ⊢
 have HQ := Lib.hid hq
 obtain ⟨lq, rq, tl, tc⟩ := q
 dsimp only at hmq ADDB ⊢
 rw [HNT.out] at hmq ADDB
 obtain ⟨tn, htn⟩ : ∃ z, tl.length = z := ⟨_, rfl⟩
 have HTN := Lib.hid htn
 obtain ⟨ch, hch⟩ : ∃ z, chainOf (lq, rq, tl, tc) = z := ⟨_, rfl⟩
 rw [hch] at PUTB
 have HCH := Lib.hid hch
 have HMQ := Lib.hid hmq
 clear hq htn hch hmq
 go_upto_if 41 with fail
 go_cut [10, 11] from 40 to 60 (fun v10 v11 wc => ∃ s d, v10 = .int .i64 (ch : Int) ∧ v11 = .slice s tn d ∧ tn ≤ d ∧ LV w2 s tl ∧ w2 = wc)
 case first =>
  by_cases h0 : 0 < rq
  ·obtain ⟨rfl, -⟩ | ⟨-, hbk⟩ := PB.out.by_
   ·exact absurd h0 (Nat.lt_irrefl 0)
   ·dsimp only at hbk
    obtain ⟨y1, y2, y3, y4, y5⟩ := back_some hbk
    unfold tkMay at y4
    dsimp only at y4
    have hc16 : tc < 16 := by omega
    rw [HNT.out] at y2
    obtain ⟨j, hj9⟩ : ∃ z, nt - rq = z := ⟨_, rfl⟩
    have hjT : j < T.length := by rw [HNT.out]; omega
    have e1 : (tl, tc) = T[j] := by
     rw [y5, tkOf_at h0 (by rw [HNT.out]; exact y2)]
     congr 1
     rw [HNT.out]
     exact hj9
    have hv := HV.out w2 K2.out
    obtain ⟨g, o, s, d, rfl, hg8, hcl, hd, hLV⟩ := hv.l.2 j (by rw [List.length_map]; exact hjT)
    obtain ⟨g2, o2, rfl, hg9, hcc⟩ := hv.c.2 j (by rw [List.length_map]; exact hjT)
    rw [List.getElem_map, ← e1] at hcl hd hLV hcc
    dsimp only at hcl hd hLV hcc
    rw [HTN.out] at hcl hd
    have HLV := Lib.hid hLV
    obtain ⟨p0, p1, p2, p3, p4, p5, p6, p7, p9⟩ := VC.out _ K2.out
    have w1 : IntKind.i64.wrap ((nt : Int) - (rq : Int)) = (j : Int) := by rw [IntWalk.i64_in _ (by omega)]; omega
    have hjn : (j : Int) < (nt : Int) := by omega
    have hj0 : (0 : Int) ≤ (j : Int) := Int.natCast_nonneg _
    have j1 : decide ((0 : Int) < (rq : Int)) = true := decide_eq_true (by omega)
    have j1n : decide (0 < rq) = true := decide_eq_true h0
    have CHE : Hid ((ch : Int) = (tc : Int) + 1) := Lib.hid (by
     have h := HCH.out
     unfold chainOf at h
     dsimp only at h
     rw [if_pos h0] at h
     omega)
    clear hv e1 hLV hj9 hbk y1 y2 y3 y4 y5 hg8 hg9
    go_wp2_with fail
    go_meet
    case rel => exact ⟨s, d, by rw [CHE.out], rfl, hd, HLV.out, rfl⟩
  ·obtain ⟨h1, h2⟩ | ⟨h1, -⟩ := PB.out.by_
   ·dsimp only at h1 h2
    injection h2 with h2 h3
    have htn0 : tn = 0 := by rw [← HTN.out, h2]; rfl
    have hch0 : ch = 0 := by
     have h := HCH.out
     unfold chainOf at h
     dsimp only at h
     rw [if_neg h0] at h
     exact h.symm
    have HTL := Lib.hid h2
    subst htn0 hch0 h1
    clear h2 h3
    go_wp2_with fail
    go_meet
    case rel => exact ⟨none, 0, rfl, rfl, Nat.le_refl _, by rw [HTL.out]; exact LV.nil, rfl⟩
   ·exact absurd h1 h0
 case rest =>
  obtain ⟨s, d, rfl, rfl, hd, hLV, hw2⟩ := hcut
  subst hw2
  have HLV := Lib.hid hLV
  obtain ⟨ob, hob⟩ : ∃ z, lay nt succ tl rq b.p = z := ⟨_, rfl⟩
  have HOB := Lib.hid hob
  rw [hob] at ADDB
  have hl2 : l.length + ob.length ≤ 1000000000 := by rw [← ADDB.out]; exact hl
  have LA : Hid (∀ W', Below w2.heap.size w2 W' → Calls Tryz.prog 55 #[.int .i64 (nt : Int), .slice a m cap, .slice s tn d, .int .i64 (rq : Int), .agg #[.int .i64 (b.p.win : Int), .int .i64 (b.p.itv : Int), .int .i64 (b.p.zet : Int)]] W' (RowPost ob W')) := Lib.hid (fun W' k => by
   have h := LD.out W' (K2.out.trans (k.mono K2.out.size)) s tl d rq (by rw [HTN.out]; exact hd) HMQ.out (HLV.out.below k)
   rw [HTN.out, HOB.out] at h
   exact h)
  have H2 := Lib.hid (H.out.next K2.out)
  have C3 : Hid (l.length + ob.length ≤ maxLen) := Lib.hid (by simp only [maxLen]; omega)
  have C4 : Hid ((l.length + ob.length) * 1 ≤ 140737488355328) := Lib.hid (by omega)
  obtain ⟨sB, dB, eB⟩ := own_shape H2.out.ownB
  subst eB
  have MF : Hid (∀ W', Below w2.heap.size w2 W' → W'.cell? ⟨qb, 0, none⟩ = some (.int .i64 (b.p.win : Int)) ∧ W'.cell? ⟨qb, 1, none⟩ = some (.int .i64 (b.depth : Int)) ∧ W'.cell? ⟨qb, 2, none⟩ = some (.int .i64 (b.p.itv : Int)) ∧ W'.cell? ⟨qb, 3, none⟩ = some (.int .i64 (b.p.zet : Int)) ∧ W'.cell? ⟨qb, 4, none⟩ = some (.int .i64 (b.cap : Int)) ∧ W'.cell? ⟨qb, 7, none⟩ = some (.slice sB l.length dB) ∧ Below w2.heap.size w2 W') := Lib.hid (fun W' k => by
   obtain ⟨p0, p1, p2, p3, p4, p5, p6, p7, p9⟩ := VC.out W' (K2.out.trans (k.mono K2.out.size))
   exact ⟨p0, p1, p2, p3, p4, p7, k⟩)
  have KX := Lib.hid (fun W W' (h : Below w2.heap.size w2 W) (k : Below W.heap.size W W') => h.trans (k.mono h.size))
  clear hLV hob hl
  go_upto_region 14 with fail
  go_cut [10] from 61 to 80 (fun v10 wc => v10 = .int .i64 (ch : Int) ∧ ∃ vB', DP w wr rd b T (l ++ ob) dr E qb gs (.slice aL T.length dL) (.slice aC T.length dC) vB' V rs ks wc)
  case first =>
   --A
   obtain ⟨p0, p1, p2, p3, p4, p7, k0⟩ := MF.out w2.drew (Below.drew (Below.refl _ _))
   go_region_law (first
    | (go_simp; go_at_call 64; (with_reducible refine (BL.out _).mono ?_); rintro e w3 ⟨rfl, k3⟩; have k3 := KX.out _ _ k0 k3; obtain ⟨q0, q1, q2, q3, q4, q7, -⟩ := MF.out w3 k3; dsimp only)
    | (go_simp; go_at_call 55; (with_reducible refine (LA.out _ k3).mono ?_); rintro e w4 ⟨v4, rfl, own4, k4⟩; have k4 := KX.out _ _ k3 k4; obtain ⟨r0, r1, r2, r3, r4, r7, -⟩ := MF.out w4 k4; have H4 := Lib.hid (H2.out.next k4); have own1 := H4.out.ownB; dsimp only)
    | (refine wp_append_row _ (by rfl) (.tmp 66) (.tmp 76) 26 rfl 0 _ 4 b0 (.bool false) 1 Tryz.underlying26 hb0 hbz0 hbz1 hbz2 rfl _ l.length _ rfl own1 _ ob.length _ rfl own4 (bls_one _) C3.out C4.out (Nat.zero_le _) ?_; intro v5 w5 own5 hg5 hw5; have D5 := Lib.hid (H4.out.putB ob own5 hg5 hw5); obtain ⟨-, -, s7, -, fz5⟩ := row_cells (H4.out.keepB hg5); have f7 := fz5 7; clear fz5; obtain ⟨a5, cap5, rfl⟩ := own_shape own5; clear own5 hg5 hw5))
   all_goals
    go_wp2_with fail
    refine Met.intro ?_
    apply_assumption
    (repeat apply Exists.intro)
    refine ⟨⟨rfl, _, D5.out⟩, rfl⟩
  obtain ⟨rfl, vB5, hD5⟩ := hcut
  rename World => W5
  have D5 := Lib.hid hD5
  clear hD5 MF LA KX H2 LD C3 C4 hl2
  have AL := Lib.hid (fun W' (k : Below W5.heap.size W5 W') => HAw.out W' ((D5.out.next k).below))
  have hT9 : m ≤ 65536 := hs9
  have HS9 := Lib.hid (fun x (hx : x ∈ succ) => HS.out.2 x hx)
  have O1 : Hid ((W5.alloc (.cells #[] 77)).drew.ownsRow W5.heap.size 77 1 (.slice (some ⟨W5.heap.size, 0, none⟩) 0 0) ([] : List Nat).length (u32V [])) := Lib.hid ⟨rfl, .inr ⟨W5.heap.size, 0, _, rfl, Nat.le_refl _, heap_alloc_new W5 _, Nat.le_refl _, by decide, rfl, rfl⟩⟩
  have K1 : Hid (Below W5.heap.size W5 (W5.alloc (.cells #[] 77)).drew) := Lib.hid (Below.drew ((Below.refl _ _).alloc (Nat.le_refl _) _))
  have A1 := Lib.hid (AL.out _ K1.out)
  have C5 : Hid (0 + m ≤ maxLen) := Lib.hid (by simp only [maxLen]; omega)
  have C6 : Hid ((0 + m) * 4 ≤ 140737488355328) := Lib.hid (by omega)
  have C7 : Hid (nt + 1 ≤ maxLen) := Lib.hid (by simp only [maxLen]; omega)
  have C8 : Hid ((nt + 1) * 24 ≤ 140737488355328) := Lib.hid (by omega)
  have O0 := Lib.hid D5.out.row
  go_upto_region 15 with fail
  go_cut [10] from 81 to 92 (fun v10 wc => v10 = .int .i64 (ch : Int) ∧ ∃ gs' vL' sl dl, GRow gs' (V ++ [.slice sl m dl]) (T.map (·.1) ++ [succ]) ∧ DPr w wr rd b vL' (V ++ [.slice sl m dl]) (.slice aC T.length dC) (chV T) vB5 (l ++ ob) dr E qb gs' rs ks wc)
  case first =>
   --B
   obtain ⟨u5, u6, -, -, -⟩ := row_cells O0.out
   have u5 : W5.drew.cell? ⟨qb, 5, none⟩ = some (.slice aL T.length dL) := u5
   have u5b : (W5.alloc (.cells #[] 77)).drew.cell? ⟨qb, 5, none⟩ = some (.slice aL T.length dL) := (K1.out.cell (lt_of_block O0.out)).trans u5
   rw [HNT.out] at u5 u5b
   go_region_law (first
    | (refine wp_append_lv _ (by rfl) (.tmp 86) (.tmp 87) 34 rfl W5.heap.size 77 j0 _ 4 Tryz.underlying34 hj hj0 hj1 hj2 rfl _ 0 _ rfl O1.out a m cap succ rfl HM.out A1.out C5.out C6.out K1.out.size ?_; intro v6 w6 own6 hg6 hw6; obtain ⟨kl, sl, dl, e6, hdl, hstl, hkl⟩ := own_stands (W := w6) (base := W5.heap.size) (v := v6) (l := succ) (by rw [HM.out]; rw [Nat.zero_add] at own6; exact own6) (by rw [HM.out]; exact hT9) (fun x hx => by have := HS9.out x hx; omega); rw [HM.out] at e6; subst e6; have D6 := Lib.hid (D5.out.lists (kl := kl) (K1.out.grown hg6 K1.out.size (fun k hk => (O1.out.lt k hk).1)) hkl); obtain ⟨y5, -, -, -, -⟩ := row_cells D6.out.row; obtain ⟨y5b, -, -, -, -⟩ := row_cells (D6.out.next ((Below.refl _ _).alloc (Nat.le_refl _) (.cells #[.slice sl m dl] 34))).row; rw [HNT.out] at y5 y5b; have OL := Lib.hid ((D6.out.next ((Below.refl _ _).alloc (Nat.le_refl _) (.cells #[.slice sl m dl] 34))).ownL); rw [HNT.out] at OL; have OO : Hid ((w6.alloc (.cells #[.slice sl m dl] 34)).ownsRow w6.heap.size 34 1 (.slice (some ⟨w6.heap.size, 0, none⟩) 1 1) 1 [.slice sl m dl]) := Lib.hid ⟨rfl, .inr ⟨w6.heap.size, 1, _, rfl, Nat.le_refl _, heap_alloc_new w6 _, Nat.le_refl _, by decide, rfl, rfl⟩⟩; have ST6 := Lib.hid (And.intro hdl hstl); clear own6 hg6 hw6 hkl hdl hstl; dsimp only)
    | (refine wp_append_row _ (by rfl) (.tmp 85) (.tmp 89) 54 rfl 0 _ 34 g0 (.slice none 0 0) 24 Tryz.underlying54 hg hg0 hg1 hg2 rfl _ nt _ rfl OL.out _ 1 _ rfl OO.out (fun u hu => by simp at hu; subst hu; rfl) C7.out C8.out (Nat.zero_le _) ?_; intro v7 w7 own7 hg7 hw7; rw [← HNT.out] at own7 hg7 hw7; have h6a := D6.out.next ((Below.refl _ _).alloc (Nat.le_refl _) (.cells #[.slice sl m dl] 34)); obtain ⟨z5, -, -, -, fz⟩ := row_cells (h6a.keepL hg7); have fz5 := fz 5; rw [HNT.out] at z5; have D7 := Lib.hid (h6a.putL own7 hg7 hw7); have G7 := Lib.hid (D6.out.2.1.snoc succ sl dl ST6.out.1 (ST6.out.2.more (fun p hp => List.mem_append_left _ hp))); obtain ⟨a7, cap7, e7⟩ := own_shape own7; rw [HNT.out] at e7; subst e7; clear own7 hg7 hw7 h6a fz))
   all_goals
    go_wp2_with fail
    refine Met.intro ?_
    apply_assumption
    (repeat apply Exists.intro)
    refine ⟨⟨rfl, _, _, sl, dl, by rw [← HM.out]; exact G7.out, D7.out⟩, rfl⟩
  obtain ⟨rfl, gs7, vL7, sl, dl, hG7, hD7⟩ := hcut
  rename World => W7
  have G7 := Lib.hid hG7
  have D7 := Lib.hid hD7
  clear hG7 hD7 O0 O1 K1 A1 C5 C6 C7 C8 AL D5
  have C3 : Hid (nt + 1 ≤ maxLen) := Lib.hid (by simp only [maxLen]; omega)
  have C4 : Hid ((nt + 1) * 8 ≤ 140737488355328) := Lib.hid (by omega)
  obtain ⟨u5, u6, u7, u9, fz⟩ := row_cells D7.out.row
  have f6 := fz 6
  have f9 := fz 9
  rw [HNT.out] at u6
  have OC : Hid ((W7.alloc (.cells #[.int .i64 (ch : Int)] 3)).ownsRow 0 3 1 (.slice aC nt dC) nt (chV T)) := Lib.hid (by
   have h := (D7.out.next ((Below.refl _ _).alloc (Nat.le_refl W7.heap.size) (.cells #[.int .i64 (ch : Int)] 3))).ownC
   rw [chV_length, HNT.out] at h
   exact h)
  clear u5 u7 fz
  go_wp2_with (at_builtin; refine wpList_append_at _ rfl _ _ 83 rfl 0 3 i0 _ 1 8 Tryz.underlying83 hi hi0 hi1 hi2 rfl (by decide) _ nt _ rfl OC.out ⟨W7.heap.size, 0, none⟩ 1 1 [.int .i64 (ch : Int)] rfl rfl (cell_one_new _ _ _) (fun u hu => by simp at hu; subst hu; rfl) C3.out C4.out (Nat.zero_le _) (by decide) ?_)
  intro v8 w8 own8 hg8 hw8
  rw [← HNT.out] at own8 hg8 hw8
  have h7a := D7.out.next ((Below.refl _ _).alloc (Nat.le_refl W7.heap.size) (.cells #[.int .i64 (ch : Int)] 3))
  obtain ⟨-, z6, -, z9, fz⟩ := row_cells (h7a.keepC hg8)
  have z6 : w8.cell? ⟨qb, 6, none⟩ = some (.slice aC nt dC) := by rw [← HNT.out]; exact z6
  have fz6 := fz 6
  have D8 := Lib.hid (h7a.putC (x := .int .i64 (ch : Int)) (by rw [chV_length]; exact own8) hg8 (by simpa using hw8))
  obtain ⟨a8, cap8, e8⟩ := own_shape own8
  rw [HNT.out] at e8
  subst e8
  clear own8 hg8 hw8 h7a fz u6 f6 f9 u9 OC C3 C4
  go_upto_region 17 with fail
  generalize hW8 : World.setCell w8 _ _ = W8 at D8 ⊢
  clear hW8 z6 fz6 z9
  obtain ⟨-, -, -, x9, fz⟩ := row_cells D8.out.row
  have f9 := fz 9
  have D9 := Lib.hid (D8.out.putE (E + m))
  clear fz
  go_wp2_with fail
  have FIN : Hid (DAddP w wr rd b T l dr E qb succ rs ks (.returned (.tuple #[.int .i64 (rq : Int), .int .i64 (lq : Int), .int .i64 0])) (W8.setCell ⟨qb, 9, none⟩ (.int .i64 ((E : Int) + (m : Int))))) := Lib.hid (by
   unfold DAddP
   rw [HQ.out]
   refine ⟨rfl, gs7, vL7, .slice a8 (nt + 1) cap8, vB5, V ++ [.slice sl m dl], ?_⟩
   have h9 := D9.out
   rw [Int.natCast_add] at h9
   unfold DP
   rw [chV_snoc, PUTB.out, ADDB.out, HM.out, List.map_append]
   exact ⟨h9.1, G7.out, h9.2⟩)
  exact bodyPost_ret (v := .tuple #[.int .i64 (rq : Int), .int .i64 (lq : Int), .int .i64 0]) (by simp [results, Tryz.results38, go_sem]) rfl FIN.out
end Go.Proofs.YtflnpcgnenhogaaGreatDoor.ls
namespace Go.Proofs.YtflnpcgnenhogaaGreatDoor.ls
open Go.RowKit Go.Proofs.YtflnpcgnenhogaaGreatDoor.own Go.Proofs.YtflnpcgnenhogaaGreatDoor.bit

/-- a reader, the ring of the last lists, its lists, rows beside -/
def NX (w : World) (wr : Option (Nat × Bits)) (T : List Tk) (rb : Nat) (s : ByteArray) (a lb : Nat) (ls ks : List (Nat × Obj)) (W : World) : Prop :=
 ∃ row, FS w wr (some (rb, s, a)) ((lb, .cells row 126 (0, 0)) :: (ls ++ ks)) W ∧ (∀ p ∈ ls ++ ks, p.1 ≠ lb) ∧ row.size = 35 ∧ Ring T row 0 ls
end Go.Proofs.YtflnpcgnenhogaaGreatDoor.ls
namespace Go.Proofs.YtflnpcgnenhogaaGreatDoor.ls
open Go.RowKit Go.Proofs.YtflnpcgnenhogaaGreatDoor.own Go.Proofs.YtflnpcgnenhogaaGreatDoor.bit

/-- what a reading stands on: the reader, the ring, the graph's row, the row of places, rows beside -/
structure DR (w : World) (wr : Option (Nat × Bits)) (T : List Tk) (rb : Nat) (s : ByteArray) (a lb : Nat) (ls gs kg ka ks : List (Nat × Obj)) (vg : Value) (V : List Value) (G : List (List Nat)) (va : Value) (A : List Nat) (N : Nat) (W : World) : Prop where
 nx : NX w wr T rb s a lb ls (kg ++ (ka ++ (gs ++ ks))) W
 hkg : KA kg vg
 hka : KA ka va
 og : W.ownsRow 0 34 1 vg V.length V
 oa : W.ownsRow 0 97 1 va A.length (u64V A)
 rows : GRow gs V G
 offg : Off (ka ++ (gs ++ (ls ++ ks))) vg
 offa : Off (kg ++ (gs ++ (ls ++ ks))) va
 new : ∀ p ∈ kg ++ (ka ++ gs), N ≤ p.1
section
variable {w W W' W2 : World} {wr : Option (Nat × Bits)} {T T' : List Tk} {rb : Nat} {s : ByteArray} {a a' lb : Nat} {ls gs kg ka ks kv : List (Nat × Obj)} {vg : Value} {V : List Value} {G : List (List Nat)} {va : Value} {A : List Nat} {N : Nat}
end
end Go.Proofs.YtflnpcgnenhogaaGreatDoor.ls
namespace Go.Proofs.YtflnpcgnenhogaaGreatDoor.ls
open Go.RowKit Go.Proofs.YtflnpcgnenhogaaGreatDoor.own Go.Proofs.YtflnpcgnenhogaaGreatDoor.bit

def StU (K : List (Nat × Obj)) (a : Option Addr) (l : List Nat) : Prop := ∀ W : World, (∀ p ∈ K, W.heap[p.1]? = some p.2) → UV W a l
theorem own_stU {W : World} {v : Value} {l : List Nat} {ka : List (Nat × Obj)} (own : W.ownsRow 0 97 1 v l.length (u64V l)) (hk : ∀ g, v.ownBlock = some g → ∃ o, (g, o) ∈ ka) (hW : ∀ p ∈ ka, W.heap[p.1]? = some p.2) (hz : l.length ≤ 4611686018427387903) :
  ∃ sa d, v = .slice sa l.length d ∧ l.length ≤ d ∧ StU ka sa l := by
 rcases own.2 with ⟨rfl, h0⟩ | ⟨g, cap, cur, rfl, hbg, hg, hn, _, _, htake⟩
 ·exact ⟨none, 0, by rw [h0], by omega, fun W' _ => ⟨hz, fun i hi => by omega⟩⟩
 ·obtain ⟨o, ho⟩ := hk g rfl
  refine ⟨_, cap, rfl, by omega, fun W' hW' => ⟨hz, fun i hi => ?_⟩⟩
  have hr := hW' _ ho
  have hr0 := hW _ ho
  dsimp only at hr hr0
  rw [hg] at hr0
  injection hr0 with hr0
  rw [← hr0] at hr
  have e1 : (u64V l)[i]? = some (.int .u64 (l[i] : Int)) := by unfold u64V; rw [List.getElem?_map, List.getElem?_eq_getElem hi]; rfl
  rw [← htake, List.getElem?_take_of_lt (by omega)] at e1
  refine ⟨g, 0, rfl, lt_of_block hr, ?_⟩
  rw [Nat.zero_add, cell_of_row _ _ _ _ _ _ hr, ← Array.getElem?_toList]
  exact e1
end Go.Proofs.YtflnpcgnenhogaaGreatDoor.ls
