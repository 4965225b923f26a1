/- Own lemmas, laid together. -/
import Derived.Test.YtflnpcgnenhogaaGreatDoorBk8
import Derived.Test.YtflnpcgnenhogaaGreatDoorBk4
import Derived.Test.YtflnpcgnenhogaaGreatDoorBk1
import Derived.BigQuiet
import Derived.BigRegion
import Derived.Laws.BytesArg
namespace Go.Proofs.YtflnpcgnenhogaaGreatDoor.bit
open Go.RowKit Go.Proofs.YtflnpcgnenhogaaGreatDoor.own

theorem Tryz.infoBool : (Tryz.prog.info? 4).map (fun i => (i.zero, i.size, i.bytes)) = some (some (.bool false), 1, 1) := by kernel_rfl
def bls (l : Bits) : List Value := l.map Value.bool
theorem bls_snoc (l : Bits) (b : Bool) : bls l ++ [.bool b] = bls (l ++ [b]) := by simp [bls]
theorem bls_append (a b : Bits) : bls a ++ bls b = bls (a ++ b) := by simp [bls]
theorem one_bool (b : Bool) : ∀ u ∈ [Value.bool b], u.oneCell' = true := by intro u hu; simp at hu; subst hu; rfl
theorem bls_one (l : Bits) : ∀ u ∈ bls l, u.oneCell' = true := by intro u hu; unfold bls at hu; obtain ⟨b, -, rfl⟩ := List.mem_map.1 hu; rfl
theorem below_grow {w wr w1 : World} {e : TypeId} {size n : Nat} {v : Value} {xs : List Value} {o : Obj} (hb : Below w.heap.size w wr) (hown : wr.ownsRow w.heap.size e size v n xs) (hg : (wr.alloc o).grownBy w1 v.ownBlock) : Below w.heap.size w w1 :=
 (hb.alloc hb.size _).grown hg (by have := hb.size; simp; omega) (fun k hk => (hown.lt k hk).1)

theorem bit_u64 (b k : Nat) (hb : b < 18446744073709551616) : (bits .and .u64 ((b : Int) / 2 ^ k) 1 == 1) = (b / 2 ^ k % 2 == 1) := by
 have e : ((b : Int) / 2 ^ k) = ((b / 2 ^ k : Nat) : Int) := by simp
 have hlt : b / 2 ^ k < 18446744073709551616 := Nat.lt_of_le_of_lt (Nat.div_le_self _ _) hb
 have h1 := (bits_nat .u64 64 (by decide) wraps_u64_64 (b / 2 ^ k) 1 hlt (by decide)).1
 rw [Nat.and_one_is_mod] at h1
 rw [e]
 show (bits .and .u64 ((b / 2 ^ k : Nat) : Int) ((1 : Nat) : Int) == 1) = _
 rw [h1]
 rcases Nat.mod_two_eq_zero_or_one (b / 2 ^ k) with h | h <;> rw [h] <;> rfl

def RowPost (l : Bits) (w : World) (e : Ending) (w' : World) : Prop :=
 ∃ v, e = .returned v ∧ w'.ownsRow w.heap.size 4 1 v l.length (bls l) ∧ Below w.heap.size w w'

/-! ### Of: a number in so many bits -/
set_option maxRecDepth 100000 in
set_option maxHeartbeats 1600000 in
theorem Of_any (n x : Nat) (hn : n ≤ 64) (hx : x < 18446744073709551616) (w : World) :
  Calls Tryz.prog 116 #[.int .u64 (x : Int), .int .i64 (n : Int)] w (RowPost (ofN n x) w) := by
 obtain ⟨i0, hi, hz0, hz1, hz2⟩ := info_parts Tryz.infoBool
 go_enter Tryz.func116, Tryz.ntmps116
 go_wp2_with fail
 go_loopw [5, 6] (fun v i wr => ∃ k : Nat, k ≤ n ∧ i = .int .i64 ((n : Int) - 1 - (k : Int)) ∧ wr.ownsRow w.heap.size 4 1 v k (bls (ofN k (x / 2 ^ (n - k)))) ∧ Below w.heap.size w wr)
  (fun _ i _ => (intOf i + 1).toNat)
 case atStart => exact ⟨0, Nat.zero_le _, by go_num, World.ownsRow_nil _ _ _ _, Below.refl _ _⟩
 case round =>
  obtain ⟨k, hk, rfl, hown, hb⟩ := hrel
  by_cases hlt : k < n
  ·obtain ⟨j, hj⟩ : ∃ j : Nat, n - 1 - k = j := ⟨_, rfl⟩
   have ej : (n : Int) - 1 - (k : Int) = (j : Int) := by omega
   rw [ej]
   have EJ := Lib.hid ej
   clear ej
   obtain ⟨b, hbit⟩ : ∃ b, (x / 2 ^ j % 2 == 1) = b := ⟨_, rfl⟩
   have BT : (bits .and .u64 ((x : Int) / 2 ^ j) 1 == 1) = b := by rw [bit_u64 x j hx, hbit]
   have EX : Hid (bls (ofN k (x / 2 ^ (n - k))) ++ [.bool b] = bls (ofN (k + 1) (x / 2 ^ (n - (k + 1))))) := Lib.hid (by
    rw [bls_snoc, ← hbit]
    have h := ofN_snoc k j x
    rw [show n - (k + 1) = j by omega, h, show n - k = j + 1 by omega])
   have HJ := Lib.hid hj
   have hj64 : j ≤ 63 := by omega
   clear hbit hj
   go_wp2_with (at_builtin; refine wpList_append_own _ rfl _ _ 26 rfl w.heap.size 4 i0 (.bool false) 1 1 Tryz.underlying26 hi hz0 hz1 hz2 rfl (by decide) _ k _ rfl (hown.alloc _) ⟨wr.heap.size, 0, none⟩ 1 1 [.bool b] rfl rfl ?c1 (one_bool b) ?c3 ?c4 ?c5 ?_)
   case c1 => exact cell_one_new _ _ _
   case c3 => simp only [maxLen]; omega
   case c4 => omega
   case c5 => have := hb.size; simp; try omega
   intro v1 w1 hown1 hg1 _
   have hb1 := below_grow hb hown hg1
   rw [EX.out] at hown1
   clear hown hb hg1
   go_wp2_with fail
   go_roundw
   case rel => exact ⟨k + 1, by omega, by have := HJ.out; go_num, hown1, hb1⟩
   case measure => simp [intOf]; try omega
  ·obtain rfl : k = n := by omega
   have EX : Hid (bls (ofN k (x / 2 ^ (k - k))) = bls (ofN k x)) := Lib.hid (by rw [Nat.sub_self]; simp)
   go_wp2_with fail
   go_ret
   rw [EX.out] at hown
   exact ⟨_, rfl, by rw [ofN_length]; exact hown, hb⟩

end Go.Proofs.YtflnpcgnenhogaaGreatDoor.bit
