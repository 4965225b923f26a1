/-
  DERIVED: THE SHELF's CONTRACTS AT THIS DUMP, IN PLAIN WORDS (tools/lay-plain.mjs out of 'TryIter.lean', which tools/lay-shelf.mjs wrote): THE SAME DECLARATIONS UNDER THE SAME NAMES: 'import', 'namespace', 'open', 'def', 'theorem' AND NOTHING ELSE: no command of the shelf's: FOR A HAND-IN. Each laying: the table of numbers ('.._ren') and one theorem, a field a fact of the dump's own or the kernel's comparison; each contract: ONE APPLICATION.
-/
import Derived.Shelf.SlIterI.Nil
import Derived.Shelf.SortM.Plain
import Derived.Shelf.SortM.SortNone
import Derived.Ground.GgzProg
import Derived.Ground.SlgmProg
import Derived.Test.YtbgbomlmgkgkoaaProg
namespace Go.Proofs
open Go.Shelf
def Try.keys56_ren : Go.Shelf.Ren := ⟨fun | 7 => 56 | 10 => 100 | n => n, fun | 23 => 109 | 26 => 3 | 3 => 102 | 28 => 116 | 0 => 0 | 27 => 115 | 33 => 176 | 4 => 4 | n => n, fun | n => n⟩
theorem Try.keys56 : Go.Proofs.SlLaysZI.n7 Try.prog Try.keys56_ren := {
  mixed := by kernel_rfl
  f7 := ⟨Try.f56.name, by decide, Try.func56.trans (congrArg some (by kernel_rfl))⟩
  f10 := ⟨Try.f100.name, by decide, Try.func100.trans (congrArg some (by kernel_rfl))⟩
  t0 := Try.underlying0
  a0 := Try.isAgg0
  z0 := Try.sizeOf0
  v0 := Try.zeroValue0
  t4 := Try.underlying4
  a4 := Try.isAgg4
  z4 := Try.sizeOf4
  v4 := Try.zeroValue4
  t23 := Try.underlying109
  a23 := Try.isAgg109
  z23 := Try.sizeOf109
  v23 := Try.zeroValue109
  t26 := Try.underlying3
  a26 := Try.isAgg3
  z26 := Try.sizeOf3
  v26 := Try.zeroValue3
  t27 := Try.underlying115
  a27 := Try.isAgg115
  z27 := Try.sizeOf115
  v27 := Try.zeroValue115
  t28 := Try.underlying116
  a28 := Try.isAgg116
  z28 := Try.sizeOf116
  v28 := Try.zeroValue116
  t33 := Try.underlying176
  a33 := Try.isAgg176
  z33 := Try.sizeOf176
  v33 := Try.zeroValue176 }
def Try.sorted55_ren : Go.Shelf.Ren := ⟨fun | 6 => 55 | 8 => 98 | 9 => 99 | 11 => 128 | 13 => 130 | 12 => 129 | 23 => 152 | 24 => 153 | 14 => 143 | 15 => 144 | 16 => 145 | 17 => 146 | 18 => 147 | 19 => 148 | 20 => 149 | 21 => 150 | 22 => 151 | 25 => 157 | 26 => 158 | 27 => 159 | 28 => 160 | 29 => 161 | 30 => 162 | 31 => 164 | n => n, fun | 26 => 3 | 28 => 116 | 24 => 45 | 0 => 0 | 3 => 3 | 37 => 162 | 48 => 141 | 50 => 83 | 4 => 4 | 40 => 241 | 39 => 240 | 45 => 217 | 5 => 5 | 9 => 9 | 51 => 252 | 55 => 256 | 57 => 259 | 58 => 160 | 33 => 176 | n => n, fun | n => n⟩
theorem Try.sorted55 : Go.Proofs.SlLaysZI.n6 Try.prog Try.sorted55_ren := {
  mixed := by kernel_rfl
  f6 := ⟨Try.f55.name, by decide, Try.func55.trans (congrArg some (by kernel_rfl))⟩
  f8 := ⟨Try.f98.name, by decide, Try.func98.trans (congrArg some (by kernel_rfl))⟩
  f11 := ⟨Try.f128.name, by decide, Try.func128.trans (congrArg some (by kernel_rfl))⟩
  t0 := Try.underlying0
  a0 := Try.isAgg0
  z0 := Try.sizeOf0
  v0 := Try.zeroValue0
  t24 := Try.underlying45
  a24 := Try.isAgg45
  z24 := Try.sizeOf45
  v24 := Try.zeroValue45
  t26 := Try.underlying3
  a26 := Try.isAgg3
  z26 := Try.sizeOf3
  v26 := Try.zeroValue3
  t28 := Try.underlying116
  a28 := Try.isAgg116
  z28 := Try.sizeOf116
  v28 := Try.zeroValue116
  i26 := by kernel_rfl }
def Try.sort99_ren : Go.Shelf.Ren := ⟨fun | 5 => 99 | 8 => 130 | 7 => 129 | 19 => 152 | 20 => 153 | 10 => 143 | 11 => 144 | 12 => 145 | 13 => 146 | 14 => 147 | 15 => 148 | 16 => 149 | 17 => 150 | 18 => 151 | 30 => 157 | 31 => 158 | 32 => 159 | 33 => 160 | 34 => 161 | 35 => 162 | 40 => 164 | n => n, fun | 23 => 45 | 25 => 3 | 3 => 3 | 32 => 162 | 22 => 45 | 0 => 0 | 44 => 141 | 46 => 83 | 4 => 4 | 36 => 241 | 35 => 240 | 41 => 217 | 5 => 5 | 9 => 9 | 53 => 252 | 57 => 256 | 63 => 259 | 64 => 160 | n => n, fun | n => n⟩
theorem Try.sort99 : Go.Proofs.SlLaysM.n5 Try.prog Try.sort99_ren := {
  mixed := by kernel_rfl
  f5 := ⟨Try.f99.name, by decide, Try.func99.trans (congrArg some (by kernel_rfl))⟩
  f7 := ⟨Try.f129.name, by decide, Try.func129.trans (congrArg some (by kernel_rfl))⟩
  f8 := Try.func130.trans (congrArg some (by kernel_rfl))
  f10 := ⟨Try.f143.name, by decide, Try.func143.trans (congrArg some (by kernel_rfl))⟩
  f11 := ⟨Try.f144.name, by decide, Try.func144.trans (congrArg some (by kernel_rfl))⟩
  f12 := ⟨Try.f145.name, by decide, Try.func145.trans (congrArg some (by kernel_rfl))⟩
  f13 := ⟨Try.f146.name, by decide, Try.func146.trans (congrArg some (by kernel_rfl))⟩
  f14 := ⟨Try.f147.name, by decide, Try.func147.trans (congrArg some (by kernel_rfl))⟩
  f15 := ⟨Try.f148.name, by decide, Try.func148.trans (congrArg some (by kernel_rfl))⟩
  f16 := ⟨Try.f149.name, by decide, Try.func149.trans (congrArg some (by kernel_rfl))⟩
  f17 := ⟨Try.f150.name, by decide, Try.func150.trans (congrArg some (by kernel_rfl))⟩
  f18 := ⟨Try.f151.name, by decide, Try.func151.trans (congrArg some (by kernel_rfl))⟩
  f19 := Try.func152.trans (congrArg some (by kernel_rfl))
  f20 := Try.func153.trans (congrArg some (by kernel_rfl))
  f30 := ⟨Try.f157.name, by decide, Try.func157.trans (congrArg some (by kernel_rfl))⟩
  f31 := Try.func158.trans (congrArg some (by kernel_rfl))
  f32 := Try.func159.trans (congrArg some (by kernel_rfl))
  f33 := ⟨Try.f160.name, by decide, Try.func160.trans (congrArg some (by kernel_rfl))⟩
  f34 := ⟨Try.f161.name, by decide, Try.func161.trans (congrArg some (by kernel_rfl))⟩
  f35 := ⟨Try.f162.name, by decide, Try.func162.trans (congrArg some (by kernel_rfl))⟩
  f40 := ⟨Try.f164.name, by decide, Try.func164.trans (congrArg some (by kernel_rfl))⟩
  t0 := Try.underlying0
  a0 := Try.isAgg0
  z0 := Try.sizeOf0
  v0 := Try.zeroValue0
  t3 := Try.underlying3
  a3 := Try.isAgg3
  z3 := Try.sizeOf3
  v3 := Try.zeroValue3
  t4 := Try.underlying4
  a4 := Try.isAgg4
  z4 := Try.sizeOf4
  v4 := Try.zeroValue4
  t5 := Try.underlying5
  a5 := Try.isAgg5
  z5 := Try.sizeOf5
  v5 := Try.zeroValue5
  t9 := Try.underlying9
  a9 := Try.isAgg9
  z9 := Try.sizeOf9
  v9 := Try.zeroValue9
  t22 := Try.underlying45
  a22 := Try.isAgg45
  z22 := Try.sizeOf45
  v22 := Try.zeroValue45
  t23 := Try.underlying45
  a23 := Try.isAgg45
  z23 := Try.sizeOf45
  v23 := Try.zeroValue45
  t25 := Try.underlying3
  a25 := Try.isAgg3
  z25 := Try.sizeOf3
  v25 := Try.zeroValue3
  t32 := Try.underlying162
  a32 := Try.isAgg162
  z32 := Try.sizeOf162
  v32 := Try.zeroValue162
  t35 := Try.underlying240
  a35 := Try.isAgg240
  z35 := Try.sizeOf240
  v35 := Try.zeroValue240
  t36 := Try.underlying241
  a36 := Try.isAgg241
  z36 := Try.sizeOf241
  v36 := Try.zeroValue241
  t41 := Try.underlying217
  a41 := Try.isAgg217
  z41 := Try.sizeOf217
  v41 := Try.zeroValue217
  t44 := Try.underlying141
  a44 := Try.isAgg141
  z44 := Try.sizeOf141
  v44 := Try.zeroValue141
  t46 := Try.underlying83
  a46 := Try.isAgg83
  z46 := Try.sizeOf83
  v46 := Try.zeroValue83
  t53 := Try.underlying252
  a53 := Try.isAgg252
  z53 := Try.sizeOf252
  v53 := Try.zeroValue252
  t57 := Try.underlying256
  a57 := Try.isAgg256
  z57 := Try.sizeOf256
  v57 := Try.zeroValue256
  t63 := Try.underlying259
  a63 := Try.isAgg259
  z63 := Try.sizeOf259
  v63 := Try.zeroValue259
  t64 := Try.underlying160
  a64 := Try.isAgg160
  z64 := Try.sizeOf160
  v64 := Try.zeroValue160 }
open Go.RowKit Go.Maps Go.Sort in
theorem Try.sorts55 (m : Nat) : AnyZI.SortsIn Try.prog Try.sorted55_ren Fence.wide m :=
  ⟨fun blk off cap ss W hH hblk hsz => callsIn_wide.2 (AnyM.slices_Sort_int Try.sort99 blk off cap ss W hH hblk hsz),
   fun p cap W => callsIn_wide.2 (AnyM.slices_Sort_int_none Try.sort99 p cap W)⟩
end Go.Proofs
