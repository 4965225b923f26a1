/- Own lemmas, laid together. -/
import Derived.Test.YtflnpcgnenhogaaGreatDoorBd9
import Derived.Test.YtflnpcgnenhogaaGreatDoorBd10
import Derived.Test.YtflnpcgnenhogaaGreatDoorBd13
import Derived.Test.YtflnpcgnenhogaaGreatDoorBd6
import Derived.Test.YtflnpcgnenhogaaGreatDoorBd7
import Derived.Test.YtflnpcgnenhogaaGreatDoorBd8
import Derived.Sort.WalkA14
import Derived.Sort.AssemblyPlain
namespace Go.Proofs.YtflnpcgnenhogaaGreatDoor.so
open Go.RowKit Go.Sort
def pdqWalk_u32 : Prop := ∀ (blk off cap a b limit : Nat) (d : Array Int) (w : World), Holds (Value.int .u32) w blk off d → blk < w.heap.size → a ≤ b → b ≤ d.size → d.size < 4611686018427387904 → limit < 4611686018427387904 → Below ltInt a b d →
 Calls Tryz.prog 109 #[.slice (some ⟨blk,off,none⟩) d.size cap,.int .i64 a,.int .i64 b,.int .i64 limit] w fun e w' =>
  e = .returned (.tuple #[]) /\ ∃ n os,w' = grow (putRow (Value.int .u32) (Sort.ahead w n) blk off (Sort.pdq ltInt d a b limit true true)) os
set_option maxRecDepth 100000 in
theorem Sort_u32 (hpdq : pdqWalk_u32) (blk off cap : Nat) (d : Array Int) (w : World) (hH : Holds (Value.int .u32) w blk off d) (hblk : blk < w.heap.size) (hsz : d.size < 4611686018427387904) :
  Calls Tryz.prog 82 #[.slice (some ⟨blk,off,none⟩) d.size cap] w fun e w' => e = .returned (.tuple #[]) /\ ∃ n os,w' = grow (putRow (Value.int .u32) (Sort.ahead w n) blk off (Sort.sort ltInt d)) os := by
 have HH : Hid (Holds (Value.int .u32) w blk off d) := hH
 clear hH
 have hLen : ∀ w,Calls Tryz.prog 110 #[.int .u64 (d.size : Int)] w fun e w' => e = .returned (.int .i64 (bitsLen d.size : Nat)) /\ w' = w := fun w => by
  have h := bits_Len_u32 (d.size : Int) w (by omega) (by omega)
  rwa [Int.toNat_natCast,bitLen_eq _ (by omega)] at h
 have hk : bitsLen d.size <= 62 := (bitsLen_le_iff d.size 62).2 (by omega)
 go_enter Tryz.func82,Tryz.ntmps82
 go_wp2_with (first
  | (go_at_call 110; refine (hLen _).mono ?_; rintro e w' ⟨rfl,rfl⟩)
  | (go_at_call 109; refine (hpdq blk off cap 0 d.size (bitsLen d.size) d _ (by exact HH.out) (by exact hblk) (Nat.zero_le _) (Nat.le_refl _) hsz (by omega) (Or.inl rfl)).mono ?_; rintro e w' ⟨rfl,n,os,rfl⟩))
 go_end0
 exact ⟨rfl,n,os,rfl⟩
theorem insertionSort_nil_u32 (p : Option Addr) (cap : Nat) (w : World) :
  Calls Tryz.prog 130 #[.slice p 0 cap,.int .i64 0,.int .i64 0] w fun e w' => e = .returned (.tuple #[]) /\ w' = w := by
 go_enter Tryz.func130,Tryz.ntmps130
 go_wp2
 refine wp_loop_rounds 1 ?_
 rw [rounds_succ]
 go_wp2
 go_end0
 exact ⟨rfl,rfl⟩
set_option maxRecDepth 100000 in
theorem pdqsort_nil_u32 (p : Option Addr) (cap : Nat) (w : World) :
  Calls Tryz.prog 109 #[.slice p 0 cap,.int .i64 0,.int .i64 0,.int .i64 0] w fun e w' => e = .returned (.tuple #[]) /\ w' = w := by
 go_enter Tryz.func109,Tryz.ntmps109
 go_wp2
 refine wp_loop_rounds 1 ?_
 rw [rounds_succ]
 go_wp2_with (first | (go_at_call 130; refine (insertionSort_nil_u32 p cap _).mono ?_; rintro e w' ⟨rfl,rfl⟩))
 refine bodyPost_ret (results_none rfl _ _ _) rfl ?_      -- an explicit 'return' in a function without results
 exact ⟨rfl,rfl⟩
set_option maxRecDepth 100000 in
theorem Sort_nil_u32 (p : Option Addr) (cap : Nat) (w : World) :
  Calls Tryz.prog 82 #[.slice p 0 cap] w fun e w' => e = .returned (.tuple #[]) /\ w' = w := by
 have hLen : ∀ w,Calls Tryz.prog 110 #[.int .u64 0] w fun e w' => e = .returned (.int .i64 0) /\ w' = w := fun w => bits_Len_u32 0 w (by omega) (by omega)
 go_enter Tryz.func82,Tryz.ntmps82
 go_wp2_with (first
  | (go_at_call 110; refine (hLen _).mono ?_; rintro e w' ⟨rfl,rfl⟩)
  | (go_at_call 109; refine (pdqsort_nil_u32 p cap _).mono ?_; rintro e w' ⟨rfl,rfl⟩))
 go_end0
 exact ⟨rfl,rfl⟩
theorem callees13 : Callees13 where
 ins := insertionSort_u32
 brk := breakPatterns_u32
 piv := choosePivot_u32
 par := partialInsertionSort_u32
 peq := partitionEqualOrdered_u32
 prt := partitionOrdered_u32
theorem plain13 : Plain13 where
 swo := swo_ltInt
 ins := insertionSort_holds
 par := partialInsertionSort_holds
 prt := partition_holds _
 peq := partitionEqual_holds _
 pdq := pdq_sorts _
theorem pdqWalkU32 : pdqWalk_u32 := fun blk off cap a b limit d w hH hb hab hbd hsz hl hB =>
 pdqsort_u32 callees13 plain13 (b - a + 1) blk off cap a b limit d w (by omega) hH hb hab hbd hsz hl hB
theorem sort_int_eq (zs : List Int) : Sort.sort ltInt zs.toArray = (zs.mergeSort fun x y => decide (x ≤ y)).toArray := by
 rw [<- sortInt zs]
theorem slices_Sort_u32 (blk off cap : Nat) (zs : List Int) (w : World) (hH : Holds (Value.int .u32) w blk off zs.toArray) (hblk : blk < w.heap.size) (hsz : zs.length < 4611686018427387904) :
  Calls Tryz.prog 82 #[.slice (some ⟨blk,off,none⟩) zs.length cap] w fun e w' =>
   e = .returned (.tuple #[]) /\ ∃ n os,w' = grow (putRow (Value.int .u32) (Sort.ahead w n) blk off (zs.mergeSort fun x y => decide (x <= y)).toArray) os := by
 have h := Sort_u32 pdqWalkU32 blk off cap zs.toArray w hH hblk (by simpa using hsz)
 rw [sort_int_eq] at h
 simpa using h
end Go.Proofs.YtflnpcgnenhogaaGreatDoor.so
