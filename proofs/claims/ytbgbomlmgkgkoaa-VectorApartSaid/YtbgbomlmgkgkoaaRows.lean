/-
  No cell of these rows narrows 'for every input' (looked for: loops, veiled, ifaces, maps, wideKeys, modest, calm, conditions, laid).
  DERIVED. THE GIVEN ROWS OF THIS SEAT. 6 by the template 'for every input the law returns true; each argument reads behind the call as it read before'; 0 by the template 'total and deterministic' (their statements: YtbgbomlmgkgkoaaTotals.lean).
  GIVEN WITH THE SEED: the statements are not yours to turn. If you find one false, say at which input.
  Laid BY PROGRAM, IN A SANDBOX (cutbox-rows.mjs): the forced cells as the released guide's own fill.sh prints them over the translation b4a23ab000edeafd… (all of the seat's roots in one cut). By AI agents, Wed Nov 11 2026. No macro, syntax, notation, axiom, sorry.
-/
import Derived.Test.YtbgbomlmgkgkoaaChecked
import GoSem.Claim
import GoSem.ClaimJoined
import GoSem.ClaimMapViews
import Derived.JoinedTies
import Derived.KernelRfl
namespace Go.Proofs.Ytbgbomlmgkgkoaa
/- THE CELL 'sum', in the pinned program and in every row, IS THE sha256 OF THE DUMP (.gsa) THAT YtbgbomlmgkgkoaaProg.lean LOADS. Nothing in Lean hashes anything: it is a label: what it is worth is what the hold of that sum in a sandbox is worth. -/
noncomputable def Try.pinned : Pinned := { name := "ytbgbomlmgkgkoaa", sum := "b4a23ab000edeafd9491cea5e37e1dd17fe0ded6cf630001e20c05985a6acb11", checked := Try.checked }
namespace Rows
def none {H : Type} : Left H := { results := [], args := [] }

/-- 'wattlelaw10.PoolPinned': WHATEVER THE INPUT: true; the input reads as it did. -/
def poolPinnedSpec : ChangeSpec := { name := "poolPinned", fn := fun _ => fun
  | [d1, d2] => { results := [.lit (.bool true)], args := [d1, d2] }
  | _ => none }
def poolPinnedRow : OpenClaim := { program := "ytbgbomlmgkgkoaa", sum := "b4a23ab000edeafd9491cea5e37e1dd17fe0ded6cf630001e20c05985a6acb11", func := "wattle/wattlelaw10.PoolPinned", spec := "poolPinned", unfollowed := true, recurses := true, apart := false }
def PoolPinnedSaid : Prop := poolPinnedRow.holds Try.pinned (OpenSpec.ofChange poolPinnedSpec)

/-- ITS FALSE NEIGHBOUR: 'it returns false'. Refute it at one input. -/
def poolPinnedWrong : ChangeSpec := { name := "poolPinned", fn := fun _ => fun
  | [d1, d2] => { results := [.lit (.bool false)], args := [d1, d2] }
  | _ => none }
def PoolPinnedWrongFalsely : Prop := poolPinnedRow.holds Try.pinned (OpenSpec.ofChange poolPinnedWrong)

/-- 'wattlelaw10.PoolSafe': WHATEVER THE INPUT: true; the input reads as it did. -/
def poolSafeSpec : ChangeSpec := { name := "poolSafe", fn := fun _ => fun
  | [d1, d2, d3, d4] => { results := [.lit (.bool true)], args := [d1, d2, d3, d4] }
  | _ => none }
def poolSafeRow : OpenClaim := { program := "ytbgbomlmgkgkoaa", sum := "b4a23ab000edeafd9491cea5e37e1dd17fe0ded6cf630001e20c05985a6acb11", func := "wattle/wattlelaw10.PoolSafe", spec := "poolSafe", unfollowed := true, recurses := true, apart := false }
def PoolSafeSaid : Prop := poolSafeRow.holds Try.pinned (OpenSpec.ofChange poolSafeSpec)

/-- ITS FALSE NEIGHBOUR: 'it returns false'. Refute it at one input. -/
def poolSafeWrong : ChangeSpec := { name := "poolSafe", fn := fun _ => fun
  | [d1, d2, d3, d4] => { results := [.lit (.bool false)], args := [d1, d2, d3, d4] }
  | _ => none }
def PoolSafeWrongFalsely : Prop := poolSafeRow.holds Try.pinned (OpenSpec.ofChange poolSafeWrong)

/-- 'wattlelaw10.PoolSame': WHATEVER THE INPUT: true; the input reads as it did. -/
def poolSameSpec : ChangeSpec := { name := "poolSame", fn := fun _ => fun
  | [d1, d2, d3] => { results := [.lit (.bool true)], args := [d1, d2, d3] }
  | _ => none }
def poolSameRow : OpenClaim := { program := "ytbgbomlmgkgkoaa", sum := "b4a23ab000edeafd9491cea5e37e1dd17fe0ded6cf630001e20c05985a6acb11", func := "wattle/wattlelaw10.PoolSame", spec := "poolSame", unfollowed := true, recurses := true, apart := false }
def PoolSameSaid : Prop := poolSameRow.holds Try.pinned (OpenSpec.ofChange poolSameSpec)

/-- ITS FALSE NEIGHBOUR: 'it returns false'. Refute it at one input. -/
def poolSameWrong : ChangeSpec := { name := "poolSame", fn := fun _ => fun
  | [d1, d2, d3] => { results := [.lit (.bool false)], args := [d1, d2, d3] }
  | _ => none }
def PoolSameWrongFalsely : Prop := poolSameRow.holds Try.pinned (OpenSpec.ofChange poolSameWrong)

/-- 'wattlelaw11.StreamFits': WHATEVER THE INPUT: true; the input reads as it did. -/
def streamFitsSpec : ChangeSpec := { name := "streamFits", fn := fun _ => fun
  | [d1, d2] => { results := [.lit (.bool true)], args := [d1, d2] }
  | _ => none }
def streamFitsRow : OpenClaim := { program := "ytbgbomlmgkgkoaa", sum := "b4a23ab000edeafd9491cea5e37e1dd17fe0ded6cf630001e20c05985a6acb11", func := "wattle/wattlelaw11.StreamFits", spec := "streamFits", inPlace := ["internal/abi.NoEscape"], unfollowed := true, recurses := true, apart := false }
def StreamFitsSaid : Prop := streamFitsRow.holds Try.pinned (OpenSpec.ofChange streamFitsSpec)

/-- ITS FALSE NEIGHBOUR: 'it returns false'. Refute it at one input. -/
def streamFitsWrong : ChangeSpec := { name := "streamFits", fn := fun _ => fun
  | [d1, d2] => { results := [.lit (.bool false)], args := [d1, d2] }
  | _ => none }
def StreamFitsWrongFalsely : Prop := streamFitsRow.holds Try.pinned (OpenSpec.ofChange streamFitsWrong)

/-- 'wattlelaw21.VectorApart': WHATEVER THE INPUT: true; the input reads as it did. -/
def vectorApartSpec : ChangeSpec := { name := "vectorApart", fn := fun _ => fun
  | [d1, d2, d3] => { results := [.lit (.bool true)], args := [d1, d2, d3] }
  | _ => none }
def vectorApartRow : OpenClaim := { program := "ytbgbomlmgkgkoaa", sum := "b4a23ab000edeafd9491cea5e37e1dd17fe0ded6cf630001e20c05985a6acb11", func := "wattle/wattlelaw21.VectorApart", spec := "vectorApart", inPlace := ["internal/abi.NoEscape", "internal/bytealg.MakeNoZero"], unfollowed := true, recurses := true, apart := false }
def VectorApartSaid : Prop := vectorApartRow.holds Try.pinned (OpenSpec.ofChange vectorApartSpec)

/-- ITS FALSE NEIGHBOUR: 'it returns false'. Refute it at one input. -/
def vectorApartWrong : ChangeSpec := { name := "vectorApart", fn := fun _ => fun
  | [d1, d2, d3] => { results := [.lit (.bool false)], args := [d1, d2, d3] }
  | _ => none }
def VectorApartWrongFalsely : Prop := vectorApartRow.holds Try.pinned (OpenSpec.ofChange vectorApartWrong)

/-- 'wattlelaw21.VectorSame': WHATEVER THE INPUT: true; the input reads as it did. -/
def vectorSameSpec : ChangeSpec := { name := "vectorSame", fn := fun _ => fun
  | [d1, d2, d3, d4, d5] => { results := [.lit (.bool true)], args := [d1, d2, d3, d4, d5] }
  | _ => none }
def vectorSameRow : OpenClaim := { program := "ytbgbomlmgkgkoaa", sum := "b4a23ab000edeafd9491cea5e37e1dd17fe0ded6cf630001e20c05985a6acb11", func := "wattle/wattlelaw21.VectorSame", spec := "vectorSame", inPlace := ["internal/abi.NoEscape", "internal/bytealg.MakeNoZero"], unfollowed := true, recurses := true, apart := false }
def VectorSameSaid : Prop := vectorSameRow.holds Try.pinned (OpenSpec.ofChange vectorSameSpec)

/-- ITS FALSE NEIGHBOUR: 'it returns false'. Refute it at one input. -/
def vectorSameWrong : ChangeSpec := { name := "vectorSame", fn := fun _ => fun
  | [d1, d2, d3, d4, d5] => { results := [.lit (.bool false)], args := [d1, d2, d3, d4, d5] }
  | _ => none }
def VectorSameWrongFalsely : Prop := vectorSameRow.holds Try.pinned (OpenSpec.ofChange vectorSameWrong)

/- THE SECOND FORM. 'bulk': how many values and letters a reading holds, each counted each time it is reached (what is shared counts as often as it is met; a slice's spare places count too). A statement '..UptoSaid' is the law's where the arguments, and the package variables that the reading takes, are together of bulk at most 1048576: NARROWER than '..Said'. Prove '..Said' where nothing that the law and all that it calls make is longer than what came in: it says more and counts as full. Else prove '..UptoSaid'. A law counts once. -/
mutual
def uptoBulk {H : Type} : DataW H → Nat
  | .lit (.string bytes) => bytes.length + 1
  | .lit _ => 1
  | .nil => 1
  | .ptr d => uptoBulk d + 1
  | .slice elems spare => uptoBulkAll elems + uptoBulkAll spare + 1
  | .agg parts => uptoBulkAll parts + 1
  | .iface _ d => uptoBulk d + 1
  | .map entries => uptoBulkEntries entries + 1
  | .held _ => 1
def uptoBulkAll {H : Type} : List (DataW H) → Nat
  | [] => 0
  | d :: r => uptoBulk d + uptoBulkAll r
def uptoBulkEntries {H : Type} : List (Lit × DataW H) → Nat
  | [] => 0
  | x :: r => uptoBulkEntry x + uptoBulkEntries r
def uptoBulkEntry {H : Type} : Lit × DataW H → Nat
  | (.string bytes, d) => bytes.length + uptoBulk d + 1
  | (_, d) => uptoBulk d + 1
 end
def uptoSmall : (H : Type) → List (DataW H) → Bool := fun _ ds => decide (uptoBulkAll ds ≤ 1048576)
def OpenSpec.upto (s : _root_.Go.ChangeSpec) : _root_.Go.OpenSpec := { _root_.Go.OpenSpec.ofChange s with cond := some uptoSmall }

/-- 'wattlelaw10.PoolPinned', WHERE WHAT IT READS IS OF BULK AT MOST 1048576: true; the input reads as it did. -/
def poolPinnedUptoRow : OpenClaim := { program := "ytbgbomlmgkgkoaa", sum := "b4a23ab000edeafd9491cea5e37e1dd17fe0ded6cf630001e20c05985a6acb11", func := "wattle/wattlelaw10.PoolPinned", spec := "poolPinned", unfollowed := true, recurses := true, apart := false, narrowed := true }
def PoolPinnedUptoSaid : Prop := poolPinnedUptoRow.holds Try.pinned (OpenSpec.upto poolPinnedSpec)

/-- 'wattlelaw10.PoolSafe', WHERE WHAT IT READS IS OF BULK AT MOST 1048576: true; the input reads as it did. -/
def poolSafeUptoRow : OpenClaim := { program := "ytbgbomlmgkgkoaa", sum := "b4a23ab000edeafd9491cea5e37e1dd17fe0ded6cf630001e20c05985a6acb11", func := "wattle/wattlelaw10.PoolSafe", spec := "poolSafe", unfollowed := true, recurses := true, apart := false, narrowed := true }
def PoolSafeUptoSaid : Prop := poolSafeUptoRow.holds Try.pinned (OpenSpec.upto poolSafeSpec)

/-- 'wattlelaw10.PoolSame', WHERE WHAT IT READS IS OF BULK AT MOST 1048576: true; the input reads as it did. -/
def poolSameUptoRow : OpenClaim := { program := "ytbgbomlmgkgkoaa", sum := "b4a23ab000edeafd9491cea5e37e1dd17fe0ded6cf630001e20c05985a6acb11", func := "wattle/wattlelaw10.PoolSame", spec := "poolSame", unfollowed := true, recurses := true, apart := false, narrowed := true }
def PoolSameUptoSaid : Prop := poolSameUptoRow.holds Try.pinned (OpenSpec.upto poolSameSpec)

/-- 'wattlelaw11.StreamFits', WHERE WHAT IT READS IS OF BULK AT MOST 1048576: true; the input reads as it did. -/
def streamFitsUptoRow : OpenClaim := { program := "ytbgbomlmgkgkoaa", sum := "b4a23ab000edeafd9491cea5e37e1dd17fe0ded6cf630001e20c05985a6acb11", func := "wattle/wattlelaw11.StreamFits", spec := "streamFits", inPlace := ["internal/abi.NoEscape"], unfollowed := true, recurses := true, apart := false, narrowed := true }
def StreamFitsUptoSaid : Prop := streamFitsUptoRow.holds Try.pinned (OpenSpec.upto streamFitsSpec)

/-- 'wattlelaw21.VectorApart', WHERE WHAT IT READS IS OF BULK AT MOST 1048576: true; the input reads as it did. -/
def vectorApartUptoRow : OpenClaim := { program := "ytbgbomlmgkgkoaa", sum := "b4a23ab000edeafd9491cea5e37e1dd17fe0ded6cf630001e20c05985a6acb11", func := "wattle/wattlelaw21.VectorApart", spec := "vectorApart", inPlace := ["internal/abi.NoEscape", "internal/bytealg.MakeNoZero"], unfollowed := true, recurses := true, apart := false, narrowed := true }
def VectorApartUptoSaid : Prop := vectorApartUptoRow.holds Try.pinned (OpenSpec.upto vectorApartSpec)

/-- 'wattlelaw21.VectorSame', WHERE WHAT IT READS IS OF BULK AT MOST 1048576: true; the input reads as it did. -/
def vectorSameUptoRow : OpenClaim := { program := "ytbgbomlmgkgkoaa", sum := "b4a23ab000edeafd9491cea5e37e1dd17fe0ded6cf630001e20c05985a6acb11", func := "wattle/wattlelaw21.VectorSame", spec := "vectorSame", inPlace := ["internal/abi.NoEscape", "internal/bytealg.MakeNoZero"], unfollowed := true, recurses := true, apart := false, narrowed := true }
def VectorSameUptoSaid : Prop := vectorSameUptoRow.holds Try.pinned (OpenSpec.upto vectorSameSpec)

end Rows
end Go.Proofs.Ytbgbomlmgkgkoaa
