/-
  No cell of these rows narrows 'for every input' (looked for: loops, veiled, ifaces, maps, wideKeys, modest, calm, conditions, laid).
  DERIVED. THE GIVEN ROWS OF THIS SEAT. 3 by the template 'for every input the law returns true; each argument reads behind the call as it read before'; 0 by the template 'total and deterministic' (their statements: YtbgbomlmgkgkoaaGreatTotals.lean).
  GIVEN WITH THE SEED: the statements are not yours to turn. If you find one false, say at which input.
  Laid BY PROGRAM, IN A SANDBOX (cutbox-rows.mjs): the forced cells as the released guide's own fill.sh prints them over the translation 0c6eb340a82dff0d… (all of the seat's roots in one cut). By AI agents, Wed Nov 11 2026. No macro, syntax, notation, axiom, sorry.
-/
import Derived.Test.YtbgbomlmgkgkoaaGreatChecked
import GoSem.Claim
import GoSem.ClaimJoined
import GoSem.ClaimMapViews
import Derived.JoinedTies
import Derived.KernelRfl
namespace Go.Proofs.YtbgbomlmgkgkoaaGreat
/- THE CELL 'sum', in the pinned program and in every row, IS THE sha256 OF THE DUMP (.gsa) THAT YtbgbomlmgkgkoaaGreatProg.lean LOADS. Nothing in Lean hashes anything: it is a label: what it is worth is what the hold of that sum in a sandbox is worth. -/
noncomputable def Tryz.pinned : Pinned := { name := "ytbgbomlmgkgkoaagreat", sum := "0c6eb340a82dff0da2ae9ef670f444c84a75ef003099a44a938a47e39ff26c21", checked := Tryz.checked }
namespace Rows
def none {H : Type} : Left H := { results := [], args := [] }

/-- 'wattlelaw11.StreamBack': WHATEVER THE INPUT: true; the input reads as it did. -/
def streamBackSpec : ChangeSpec := { name := "streamBack", fn := fun _ => fun
  | [d1, d2, d3, d4, d5] => { results := [.lit (.bool true)], args := [d1, d2, d3, d4, d5] }
  | _ => none }
def streamBackRow : OpenClaim := { program := "ytbgbomlmgkgkoaagreat", sum := "0c6eb340a82dff0da2ae9ef670f444c84a75ef003099a44a938a47e39ff26c21", func := "wattle/wattlelaw11.StreamBack", spec := "streamBack", inPlace := ["internal/abi.NoEscape"], unfollowed := true, recurses := true, apart := false }
def StreamBackSaid : Prop := streamBackRow.holds Tryz.pinned (OpenSpec.ofChange streamBackSpec)

/-- ITS FALSE NEIGHBOUR: 'it returns false'. Refute it at one input. -/
def streamBackWrong : ChangeSpec := { name := "streamBack", fn := fun _ => fun
  | [d1, d2, d3, d4, d5] => { results := [.lit (.bool false)], args := [d1, d2, d3, d4, d5] }
  | _ => none }
def StreamBackWrongFalsely : Prop := streamBackRow.holds Tryz.pinned (OpenSpec.ofChange streamBackWrong)

/-- 'wattlelaw11.StreamTold': WHATEVER THE INPUT: true; the input reads as it did. -/
def streamToldSpec : ChangeSpec := { name := "streamTold", fn := fun _ => fun
  | [d1, d2, d3, d4, d5] => { results := [.lit (.bool true)], args := [d1, d2, d3, d4, d5] }
  | _ => none }
def streamToldRow : OpenClaim := { program := "ytbgbomlmgkgkoaagreat", sum := "0c6eb340a82dff0da2ae9ef670f444c84a75ef003099a44a938a47e39ff26c21", func := "wattle/wattlelaw11.StreamTold", spec := "streamTold", inPlace := ["internal/abi.NoEscape"], unfollowed := true, recurses := true, apart := false }
def StreamToldSaid : Prop := streamToldRow.holds Tryz.pinned (OpenSpec.ofChange streamToldSpec)

/-- ITS FALSE NEIGHBOUR: 'it returns false'. Refute it at one input. -/
def streamToldWrong : ChangeSpec := { name := "streamTold", fn := fun _ => fun
  | [d1, d2, d3, d4, d5] => { results := [.lit (.bool false)], args := [d1, d2, d3, d4, d5] }
  | _ => none }
def StreamToldWrongFalsely : Prop := streamToldRow.holds Tryz.pinned (OpenSpec.ofChange streamToldWrong)

/-- 'wattlelaw21.VectorPlays': WHATEVER THE INPUT: true; the input reads as it did. -/
def vectorPlaysSpec : ChangeSpec := { name := "vectorPlays", fn := fun _ => fun
  | [d1, d2, d3] => { results := [.lit (.bool true)], args := [d1, d2, d3] }
  | _ => none }
def vectorPlaysRow : OpenClaim := { program := "ytbgbomlmgkgkoaagreat", sum := "0c6eb340a82dff0da2ae9ef670f444c84a75ef003099a44a938a47e39ff26c21", func := "wattle/wattlelaw21.VectorPlays", spec := "vectorPlays", inPlace := ["internal/abi.NoEscape", "internal/bytealg.MakeNoZero"], unfollowed := true, recurses := true, apart := false }
def VectorPlaysSaid : Prop := vectorPlaysRow.holds Tryz.pinned (OpenSpec.ofChange vectorPlaysSpec)

/-- ITS FALSE NEIGHBOUR: 'it returns false'. Refute it at one input. -/
def vectorPlaysWrong : ChangeSpec := { name := "vectorPlays", fn := fun _ => fun
  | [d1, d2, d3] => { results := [.lit (.bool false)], args := [d1, d2, d3] }
  | _ => none }
def VectorPlaysWrongFalsely : Prop := vectorPlaysRow.holds Tryz.pinned (OpenSpec.ofChange vectorPlaysWrong)

/- THE SECOND FORM. 'bulk': how many values and letters a reading holds, each counted each time it is reached (what is shared counts as often as it is met; a slice's spare places count too). A statement '..UptoSaid' is the law's where the arguments, and the package variables that the reading takes, are together of bulk at most 1048576: NARROWER than '..Said'. Prove '..Said' where nothing that the law and all that it calls make is longer than what came in: it says more and counts as full. Else prove '..UptoSaid'. A law counts once. -/
mutual
def uptoBulk {H : Type} : DataW H → Nat
  | .lit (.string bytes) => bytes.length + 1
  | .lit _ => 1
  | .nil => 1
  | .ptr d => uptoBulk d + 1
  | .slice elems spare => uptoBulkAll elems + uptoBulkAll spare + 1
  | .agg parts => uptoBulkAll parts + 1
  | .iface _ d => uptoBulk d + 1
  | .map entries => uptoBulkEntries entries + 1
  | .held _ => 1
def uptoBulkAll {H : Type} : List (DataW H) → Nat
  | [] => 0
  | d :: r => uptoBulk d + uptoBulkAll r
def uptoBulkEntries {H : Type} : List (Lit × DataW H) → Nat
  | [] => 0
  | x :: r => uptoBulkEntry x + uptoBulkEntries r
def uptoBulkEntry {H : Type} : Lit × DataW H → Nat
  | (.string bytes, d) => bytes.length + uptoBulk d + 1
  | (_, d) => uptoBulk d + 1
 end
def uptoSmall : (H : Type) → List (DataW H) → Bool := fun _ ds => decide (uptoBulkAll ds ≤ 1048576)
def OpenSpec.upto (s : _root_.Go.ChangeSpec) : _root_.Go.OpenSpec := { _root_.Go.OpenSpec.ofChange s with cond := some uptoSmall }

/-- 'wattlelaw11.StreamBack', WHERE WHAT IT READS IS OF BULK AT MOST 1048576: true; the input reads as it did. -/
def streamBackUptoRow : OpenClaim := { program := "ytbgbomlmgkgkoaagreat", sum := "0c6eb340a82dff0da2ae9ef670f444c84a75ef003099a44a938a47e39ff26c21", func := "wattle/wattlelaw11.StreamBack", spec := "streamBack", inPlace := ["internal/abi.NoEscape"], unfollowed := true, recurses := true, apart := false, narrowed := true }
def StreamBackUptoSaid : Prop := streamBackUptoRow.holds Tryz.pinned (OpenSpec.upto streamBackSpec)

/-- 'wattlelaw11.StreamTold', WHERE WHAT IT READS IS OF BULK AT MOST 1048576: true; the input reads as it did. -/
def streamToldUptoRow : OpenClaim := { program := "ytbgbomlmgkgkoaagreat", sum := "0c6eb340a82dff0da2ae9ef670f444c84a75ef003099a44a938a47e39ff26c21", func := "wattle/wattlelaw11.StreamTold", spec := "streamTold", inPlace := ["internal/abi.NoEscape"], unfollowed := true, recurses := true, apart := false, narrowed := true }
def StreamToldUptoSaid : Prop := streamToldUptoRow.holds Tryz.pinned (OpenSpec.upto streamToldSpec)

/-- 'wattlelaw21.VectorPlays', WHERE WHAT IT READS IS OF BULK AT MOST 1048576: true; the input reads as it did. -/
def vectorPlaysUptoRow : OpenClaim := { program := "ytbgbomlmgkgkoaagreat", sum := "0c6eb340a82dff0da2ae9ef670f444c84a75ef003099a44a938a47e39ff26c21", func := "wattle/wattlelaw21.VectorPlays", spec := "vectorPlays", inPlace := ["internal/abi.NoEscape", "internal/bytealg.MakeNoZero"], unfollowed := true, recurses := true, apart := false, narrowed := true }
def VectorPlaysUptoSaid : Prop := vectorPlaysUptoRow.holds Tryz.pinned (OpenSpec.upto vectorPlaysSpec)

end Rows
end Go.Proofs.YtbgbomlmgkgkoaaGreat
