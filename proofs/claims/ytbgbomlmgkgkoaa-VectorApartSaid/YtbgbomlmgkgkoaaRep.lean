/-
  DERIVED: THE SHELF's CONTRACTS AT THIS DUMP, IN PLAIN WORDS (tools/lay-plain.mjs out of 'TryRep.lean', which tools/lay-shelf.mjs wrote): THE SAME DECLARATIONS UNDER THE SAME NAMES: 'import', 'namespace', 'open', 'def', 'theorem' AND NOTHING ELSE: no command of the shelf's: FOR A HAND-IN. Each laying: the table of numbers ('.._ren') and one theorem, a field a fact of the dump's own or the kernel's comparison; each contract: ONE APPLICATION.
-/
import Derived.Shelf.Strings.Repeat
import Derived.Test.YtbgbomlmgkgkoaaProg
namespace Go.Proofs
open Go.Shelf
def Try.lays105_ren : Go.Shelf.Ren := ⟨fun | 105 => 83 | 212 => 116 | 99 => 117 | 165 => 118 | 166 => 88 | 170 => 119 | 169 => 89 | 263 => 137 | 264 => 138 | 206 => 139 | 240 => 120 | 241 => 140 | 276 => 141 | 277 => 156 | n => n, fun | 9 => 9 | 3 => 3 | 4 => 4 | 20 => 20 | 0 => 0 | 46 => 162 | 109 => 212 | 5 => 5 | 72 => 165 | 76 => 168 | 51 => 141 | 146 => 232 | 53 => 83 | 148 => 234 | 70 => 163 | 37 => 72 | 75 => 167 | 127 => 216 | 164 => 236 | 80 => 170 | n => n, fun | n => n⟩
theorem Try.lays105 : Go.Proofs.Lays.n105 Try.prog Try.lays105_ren := {
  mixed := by kernel_rfl
  f99 := Try.func117.trans (congrArg some (by kernel_rfl))
  f105 := Try.func83.trans (congrArg some (by kernel_rfl))
  f165 := Try.func118.trans (congrArg some (by kernel_rfl))
  f166 := Try.func88.trans (congrArg some (by kernel_rfl))
  f169 := Try.func89.trans (congrArg some (by kernel_rfl))
  f170 := Try.func119.trans (congrArg some (by kernel_rfl))
  f206 := Try.func139.trans (congrArg some (by kernel_rfl))
  f212 := Try.func116.trans (congrArg some (by kernel_rfl))
  f240 := Try.func120.trans (congrArg some (by kernel_rfl))
  f241 := Try.func140.trans (congrArg some (by kernel_rfl))
  f263 := Try.func137.trans (congrArg some (by kernel_rfl))
  f264 := Try.func138.trans (congrArg some (by kernel_rfl))
  f276 := Try.func141.trans (congrArg some (by kernel_rfl))
  f277 := Try.func156.trans (congrArg some (by kernel_rfl))
  t0 := Try.underlying0
  a0 := Try.isAgg0
  z0 := Try.sizeOf0
  v0 := Try.zeroValue0
  t3 := Try.underlying3
  a3 := Try.isAgg3
  z3 := Try.sizeOf3
  v3 := Try.zeroValue3
  t4 := Try.underlying4
  a4 := Try.isAgg4
  z4 := Try.sizeOf4
  v4 := Try.zeroValue4
  t5 := Try.underlying5
  a5 := Try.isAgg5
  z5 := Try.sizeOf5
  v5 := Try.zeroValue5
  t9 := Try.underlying9
  a9 := Try.isAgg9
  z9 := Try.sizeOf9
  v9 := Try.zeroValue9
  t20 := Try.underlying20
  a20 := Try.isAgg20
  z20 := Try.sizeOf20
  v20 := Try.zeroValue20
  t37 := Try.underlying72
  a37 := Try.isAgg72
  z37 := Try.sizeOf72
  v37 := Try.zeroValue72
  t46 := Try.underlying162
  a46 := Try.isAgg162
  z46 := Try.sizeOf162
  v46 := Try.zeroValue162
  t51 := Try.underlying141
  a51 := Try.isAgg141
  z51 := Try.sizeOf141
  v51 := Try.zeroValue141
  t53 := Try.underlying83
  a53 := Try.isAgg83
  z53 := Try.sizeOf83
  v53 := Try.zeroValue83
  t70 := Try.underlying163
  a70 := Try.isAgg163
  z70 := Try.sizeOf163
  v70 := Try.zeroValue163
  t72 := Try.underlying165
  a72 := Try.isAgg165
  z72 := Try.sizeOf165
  v72 := Try.zeroValue165
  t75 := Try.underlying167
  a75 := Try.isAgg167
  z75 := Try.sizeOf167
  v75 := Try.zeroValue167
  t76 := Try.underlying168
  a76 := Try.isAgg168
  z76 := Try.sizeOf168
  v76 := Try.zeroValue168
  t109 := Try.underlying212
  a109 := Try.isAgg212
  z109 := Try.sizeOf212
  v109 := Try.zeroValue212
  t127 := Try.underlying216
  a127 := Try.isAgg216
  z127 := Try.sizeOf216
  v127 := Try.zeroValue216
  t146 := Try.underlying232
  a146 := Try.isAgg232
  z146 := Try.sizeOf232
  v146 := Try.zeroValue232
  t148 := Try.underlying234
  a148 := Try.isAgg234
  z148 := Try.sizeOf234
  v148 := Try.zeroValue234
  t164 := Try.underlying236
  a164 := Try.isAgg236
  z164 := Try.sizeOf236
  v164 := Try.zeroValue236 }
theorem Try.Builder_Extra_105 : Builder.Extra Try.prog Try.lays105_ren := {
  sizeBuilder := by kernel_rfl
  liesBuilder := by kernel_rfl
  t5 := Try.underlying5
  a5 := Try.isAgg5
  z5 := Try.sizeOf5
  v5 := Try.zeroValue5
  infoByte := by kernel_rfl
  cellsByte := by kernel_rfl
  sizeByte := by kernel_rfl
  neB5 := by decide }
open Go.RowKit Go.Lib in
/-- **strings.Repeat: count ≥ 0, the result within one allocation: count copies of s.** (LAID: no walk: one application.) -/
theorem Try.strings_Repeat (s : ByteArray) (c : Nat) (w : World) (hc : c ≤ 9223372036854775807) (hlen : s.size * c ≤ 140737488355328) :
    Calls Try.prog 83 #[.string s, .int .i64 c] w fun e w' => e = .returned (.string ⟨(Lib.repeatL s.data.toList c).toArray⟩) ∧ Below w.heap.size w w' := Any.strings_Repeat Try.lays105 Try.Builder_Extra_105 s c w hc hlen
end Go.Proofs
