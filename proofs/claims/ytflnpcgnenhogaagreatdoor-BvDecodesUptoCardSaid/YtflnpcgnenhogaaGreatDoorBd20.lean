/- Own lemmas, laid together. -/
import Derived.Test.YtflnpcgnenhogaaGreatDoorBd17
import Derived.Test.YtflnpcgnenhogaaGreatDoorBd14
import Derived.Test.YtflnpcgnenhogaaGreatDoorBd1
import Derived.BigQuiet
import Derived.BigRegion
import Derived.Laws.BytesArg
namespace Go.Proofs.YtflnpcgnenhogaaGreatDoor.bit
open Go.RowKit Go.Proofs.YtflnpcgnenhogaaGreatDoor.own

theorem Tryz.infoBool : (Tryz.prog.info? 4).map (fun i => (i.zero, i.size, i.bytes)) = some (some (.bool false), 1, 1) := by kernel_rfl
def bls (l : Bits) : List Value := l.map Value.bool
theorem bls_snoc (l : Bits) (b : Bool) : bls l ++ [.bool b] = bls (l ++ [b]) := by simp [bls]
theorem bls_append (a b : Bits) : bls a ++ bls b = bls (a ++ b) := by simp [bls]
theorem one_bool (b : Bool) : ∀ u ∈ [Value.bool b], u.oneCell' = true := by intro u hu; simp at hu; subst hu; rfl
theorem bls_one (l : Bits) : ∀ u ∈ bls l, u.oneCell' = true := by intro u hu; unfold bls at hu; obtain ⟨b, -, rfl⟩ := List.mem_map.1 hu; rfl
theorem below_grow {w wr w1 : World} {e : TypeId} {size n : Nat} {v : Value} {xs : List Value} {o : Obj} (hb : Below w.heap.size w wr) (hown : wr.ownsRow w.heap.size e size v n xs) (hg : (wr.alloc o).grownBy w1 v.ownBlock) : Below w.heap.size w w1 :=
 (hb.alloc hb.size _).grown hg (by have := hb.size; simp; omega) (fun k hk => (hown.lt k hk).1)

theorem bit_u8 (b k : Nat) (hb : b < 256) : (bits .and .u8 ((b : Int) / 2 ^ k) 1 == 1) = (b / 2 ^ k % 2 == 1) := by
 have e : ((b : Int) / 2 ^ k) = ((b / 2 ^ k : Nat) : Int) := by simp
 have hlt : b / 2 ^ k < 256 := Nat.lt_of_le_of_lt (Nat.div_le_self _ _) hb
 have h1 := (bits_nat .u8 8 (by decide) wraps_u8 (b / 2 ^ k) 1 hlt (by decide)).1
 rw [Nat.and_one_is_mod] at h1
 rw [e]
 show (bits .and .u8 ((b / 2 ^ k : Nat) : Int) ((1 : Nat) : Int) == 1) = _
 rw [h1]
 rcases Nat.mod_two_eq_zero_or_one (b / 2 ^ k) with h | h <;> rw [h] <;> rfl
theorem bit_u64 (b k : Nat) (hb : b < 18446744073709551616) : (bits .and .u64 ((b : Int) / 2 ^ k) 1 == 1) = (b / 2 ^ k % 2 == 1) := by
 have e : ((b : Int) / 2 ^ k) = ((b / 2 ^ k : Nat) : Int) := by simp
 have hlt : b / 2 ^ k < 18446744073709551616 := Nat.lt_of_le_of_lt (Nat.div_le_self _ _) hb
 have h1 := (bits_nat .u64 64 (by decide) wraps_u64_64 (b / 2 ^ k) 1 hlt (by decide)).1
 rw [Nat.and_one_is_mod] at h1
 rw [e]
 show (bits .and .u64 ((b / 2 ^ k : Nat) : Int) ((1 : Nat) : Int) == 1) = _
 rw [h1]
 rcases Nat.mod_two_eq_zero_or_one (b / 2 ^ k) with h | h <;> rw [h] <;> rfl

def RowPost (l : Bits) (w : World) (e : Ending) (w' : World) : Prop :=
 ∃ v,e = .returned v /\ w'.ownsRow w.heap.size 4 1 v l.length (bls l) /\ Below w.heap.size w w'

/-! ### Of: a number in so many bits -/
set_option maxRecDepth 100000 in
set_option maxHeartbeats 1600000 in
theorem Of_any (n x : Nat) (hn : n ≤ 64) (hx : x < 18446744073709551616) (w : World) :
  Calls Tryz.prog 116 #[.int .u64 (x : Int),.int .i64 (n : Int)] w (RowPost (ofN n x) w) := by
 obtain ⟨i0,hi,hz0,hz1,hz2⟩ := info_parts Tryz.infoBool
 go_enter Tryz.func116,Tryz.ntmps116
 go_wp2_with fail
 go_loopw [5,6] (fun v i wr => ∃ k : Nat,k <= n /\ i = .int .i64 ((n : Int) - 1 - (k : Int)) /\ wr.ownsRow w.heap.size 4 1 v k (bls (ofN k (x / 2 ^ (n - k)))) /\ Below w.heap.size w wr)
  (fun _ i _ => (intOf i + 1).toNat)
 case atStart => exact ⟨0,Nat.zero_le _,by go_num,World.ownsRow_nil _ _ _ _,Below.refl _ _⟩
 case round =>
  obtain ⟨k,hk,rfl,hown,hb⟩ := hrel
  by_cases hlt : k < n
  ·obtain ⟨j,hj⟩ : ∃ j : Nat,n - 1 - k = j := ⟨_,rfl⟩
   have ej : (n : Int) - 1 - (k : Int) = (j : Int) := by omega
   rw [ej]
   have EJ := Lib.hid ej
   clear ej
   obtain ⟨b,hbit⟩ : ∃ b,(x / 2 ^ j % 2 == 1) = b := ⟨_,rfl⟩
   have BT : (bits .and .u64 ((x : Int) / 2 ^ j) 1 == 1) = b := by rw [bit_u64 x j hx,hbit]
   have EX : Hid (bls (ofN k (x / 2 ^ (n - k))) ++ [.bool b] = bls (ofN (k + 1) (x / 2 ^ (n - (k + 1))))) := Lib.hid (by
    rw [bls_snoc,<- hbit]
    have h := ofN_snoc k j x
    rw [show n - (k + 1) = j by omega,h,show n - k = j + 1 by omega])
   have HJ := Lib.hid hj
   have hj64 : j <= 63 := by omega
   clear hbit hj
   go_wp2_with (at_builtin; refine wpList_append_own _ rfl _ _ 26 rfl w.heap.size 4 i0 (.bool false) 1 1 Tryz.underlying26 hi hz0 hz1 hz2 rfl (by decide) _ k _ rfl (hown.alloc _) ⟨wr.heap.size,0,none⟩ 1 1 [.bool b] rfl rfl ?c1 (one_bool b) ?c3 ?c4 ?c5 ?_)
   case c1 => exact cell_one_new _ _ _
   case c3 => simp only [maxLen]; omega
   case c4 => omega
   case c5 => have := hb.size; simp; try omega
   intro v1 w1 hown1 hg1 _
   have hb1 := below_grow hb hown hg1
   rw [EX.out] at hown1
   clear hown hb hg1
   go_wp2_with fail
   go_roundw
   case rel => exact ⟨k + 1,by omega,by have := HJ.out; go_num,hown1,hb1⟩
   case measure => simp [intOf]; try omega
  ·obtain rfl : k = n := by omega
   have EX : Hid (bls (ofN k (x / 2 ^ (k - k))) = bls (ofN k x)) := Lib.hid (by rw [Nat.sub_self]; simp)
   go_wp2_with fail
   go_ret
   rw [EX.out] at hown
   exact ⟨_,rfl,by rw [ofN_length]; exact hown,hb⟩

/-! ### Bits: of a text -/
set_option maxRecDepth 100000 in
set_option maxHeartbeats 1600000 in
theorem Bits_any (s : ByteArray) (hs : s.size ≤ 1099511627776) (w : World) :
  Calls Tryz.prog 8 #[.string s] w (RowPost (unpack (nats s)) w) := by
 obtain ⟨i0,hi,hz0,hz1,hz2⟩ := info_parts Tryz.infoBool
 go_enter Tryz.func8,Tryz.ntmps8
 go_wp2_with fail
 go_loopw [3,4,5] (fun v i _ wr => ∃ k : Nat,k <= s.size /\ i = .int .i64 (k : Int) /\ wr.ownsRow w.heap.size 4 1 v (8 * k) (bls (unpack ((nats s).take k))) /\ Below w.heap.size w wr)
  (fun _ i _ _ => s.size - (intOf i).toNat)
 case atStart => exact ⟨0,Nat.zero_le _,rfl,World.ownsRow_nil _ _ _ _,Below.refl _ _⟩
 case round =>
  obtain ⟨k,hk,rfl,hown,hb⟩ := hrel
  by_cases hlt : k < s.size
  ·obtain ⟨b,hbe⟩ : ∃ b,s[k].toNat = b := ⟨_,rfl⟩
   have hb8 : b < 256 := by rw [<- hbe]; exact s[k].toNat_lt
   have NX : Hid (∀ m,m = 8 -> bls (unpack ((nats s).take k) ++ ofN m (b / 2 ^ (8 - m))) = bls (unpack ((nats s).take (k + 1)))) := Lib.hid (by
    rintro m rfl
    have h2 : k < (nats s).length := by rw [nats_length]; exact hlt
    rw [List.take_succ_eq_append_getElem h2,unpack_snoc,nats_at s k hlt h2,hbe]
    simp)
   go_wp2_with fail
   go_loopw [3,5] (fun v j wr => ∃ m : Nat,m <= 8 /\ j = .int .i64 (7 - (m : Int)) /\ wr.ownsRow w.heap.size 4 1 v (8 * k + m) (bls (unpack ((nats s).take k) ++ ofN m (b / 2 ^ (8 - m)))) /\ Below w.heap.size w wr)
    (fun _ j _ => (intOf j + 1).toNat)
   case atStart => exact ⟨0,Nat.zero_le _,by go_num,by simpa [ofN] using hown,hb⟩
   case round =>
    obtain ⟨m,hm,rfl,hown,hb⟩ := hrel
    by_cases hlm : m < 8
    ·obtain ⟨j,hj⟩ : ∃ j : Nat,7 - m = j := ⟨_,rfl⟩
     have ej : 7 - (m : Int) = (j : Int) := by omega
     rw [ej]
     obtain ⟨bt,hbit⟩ : ∃ c,(b / 2 ^ j % 2 == 1) = c := ⟨_,rfl⟩
     have BT : (bits .and .u8 ((b : Int) / 2 ^ j) 1 == 1) = bt := by rw [bit_u8 b j hb8,hbit]
     have EX : Hid (bls (unpack ((nats s).take k) ++ ofN m (b / 2 ^ (8 - m))) ++ [.bool bt] = bls (unpack ((nats s).take k) ++ ofN (m + 1) (b / 2 ^ (8 - (m + 1))))) := Lib.hid (by
      rw [bls_snoc,<- hbit,List.append_assoc]
      have h := ofN_snoc m j b
      rw [show 8 - (m + 1) = j by omega,h,show 8 - m = j + 1 by omega])
     have HJ := Lib.hid hj
     have EJ := Lib.hid ej
     have hj64 : j <= 7 := by omega
     clear hbit hj ej NX
     go_wp2_with (at_builtin; refine wpList_append_own _ rfl _ _ 26 rfl w.heap.size 4 i0 (.bool false) 1 1 Tryz.underlying26 hi hz0 hz1 hz2 rfl (by decide) _ (8 * k + m) _ rfl (hown.alloc _) ⟨wr.heap.size,0,none⟩ 1 1 [.bool bt] rfl rfl ?c1 (one_bool bt) ?c3 ?c4 ?c5 ?_)
     case c1 => exact cell_one_new _ _ _
     case c3 => simp only [maxLen]; omega
     case c4 => omega
     case c5 => have := hb.size; simp; try omega
     intro v1 w1 hown1 hg1 _
     have hb1 := below_grow hb hown hg1
     rw [EX.out] at hown1
     clear hown hb hg1
     go_wp2_with fail
     go_roundw
     case rel => exact ⟨m + 1,by omega,by have := HJ.out; go_num,hown1,hb1⟩
     case measure => have := HJ.out; simp [intOf]; try omega
    ·obtain rfl : m = 8 := by omega
     rw [NX.out 8 rfl] at hown
     go_wp2_with fail
     go_roundw
     case rel => exact ⟨k + 1,by omega,by go_num,hown,hb⟩
     case measure => simp [intOf]; try omega
  ·obtain rfl : k = s.size := by omega
   have EX : Hid ((nats s).take s.size = nats s) := Lib.hid (List.take_of_length_le (by rw [nats_length]; omega))
   have EL : Hid ((unpack (nats s)).length = 8 * s.size) := Lib.hid (by rw [unpack_length,nats_length])
   go_wp2_with fail
   go_ret
   rw [EX.out] at hown
   exact ⟨_,rfl,by rw [EL.out]; exact hown,hb⟩

/-! ### Number: bits as a number -/
set_option maxRecDepth 100000 in
set_option maxHeartbeats 1600000 in
theorem Number_any (w : World) (o cap : Nat) (g : Option Nat) (l : Bits) (hl : l.length ≤ 64)
  (v : Value) (hv : v = .slice (g.map fun g => ⟨g,o,none⟩) l.length cap) (hcells : ∀ j (h : j < l.length),∃ b,g = some b /\ w.cell? ⟨b,o + j,none⟩ = some (.bool l[j])) :
  Calls Tryz.prog 129 #[v] w fun e w' => e = .returned (.int .u64 ((num l : Nat) : Int)) /\ Below w.heap.size w w' := by
 subst hv
 have HC := Lib.hid hcells
 clear hcells
 obtain ⟨n,hn⟩ : ∃ n,l.length = n := ⟨_,rfl⟩
 rw [hn] at hl
 have HN := Lib.hid hn
 rw [hn]
 clear hn
 go_enter Tryz.func129,Tryz.ntmps129
 go_wp2_with fail
 go_loopw [3,4] (fun v i wr => ∃ k : Nat,k <= n /\ i = .int .i64 (k : Int) /\ v = .int .u64 ((num (l.take k) : Nat) : Int) /\ Below w.heap.size w wr)
  (fun _ i _ => n - (intOf i).toNat)
 case atStart => exact ⟨0,Nat.zero_le _,rfl,rfl,Below.refl _ _⟩
 case round =>
  obtain ⟨k,hk,rfl,rfl,hb⟩ := hrel
  by_cases hlt : k < n
  ·obtain ⟨b,rfl,hcell⟩ := HC.out k (by rw [HN.out]; exact hlt)
   have hcell1 : wr.cell? ⟨b,o + k,none⟩ = some (.bool (l[k]'(by rw [HN.out]; exact hlt))) := by
    rw [World.cell?_of_block (w := w) (hb.block b (World.block_lt_of_cell? _ _ hcell))]; exact hcell
   obtain ⟨a,ha⟩ : ∃ a,num (l.take k) = a := ⟨_,rfl⟩
   have hlt63 : a < 2 ^ 63 := by
    rw [<- ha]
    refine Nat.lt_of_lt_of_le (num_lt _) (Nat.pow_le_pow_right (by decide) ?_)
    rw [List.length_take]; omega
   have NX : Hid (num (l.take (k + 1)) = 2 * a + (if (l[k]'(by rw [HN.out]; exact hlt)) then 1 else 0)) := Lib.hid (by
    rw [List.take_succ_eq_append_getElem (by rw [HN.out]; exact hlt),num_snoc,ha])
   have HA := Lib.hid ha
   rw [ha]
   generalize (l[k]'(by rw [HN.out]; exact hlt)) = c at *
   clear ha hcell
   cases c
   ·go_wp2_with fail
    go_roundw
    case rel => exact ⟨k + 1,by omega,by go_num,by rw [NX.out]; go_num,hb⟩
    case measure => simp [intOf]; try omega
   ·go_wp2_with fail
    go_roundw
    case rel => exact ⟨k + 1,by omega,by go_num,by rw [NX.out]; go_num,hb⟩
    case measure => simp [intOf]; try omega
  ·obtain rfl : k = n := by omega
   have R : Hid (num (l.take k) = num l) := Lib.hid (by rw [List.take_of_length_le (by rw [HN.out]; omega)])
   go_wp2_with fail
   go_ret
   exact ⟨by rw [R.out]; rfl,hb⟩
end Go.Proofs.YtflnpcgnenhogaaGreatDoor.bit
