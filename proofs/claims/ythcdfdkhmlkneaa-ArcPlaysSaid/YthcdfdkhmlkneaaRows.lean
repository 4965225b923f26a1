/-
  No cell of these rows narrows 'for every input' (looked for: loops, veiled, ifaces, maps, wideKeys, modest, calm, conditions, laid).
  DERIVED. THE GIVEN ROWS OF THIS SEAT. 5 by the template 'for every input the law returns true; each argument reads behind the call as it read before'; 0 by the template 'total and deterministic' (their statements: YthcdfdkhmlkneaaTotals.lean).
  GIVEN WITH THE SEED: the statements are not yours to turn. If you find one false, say at which input.
  Laid BY PROGRAM, IN A SANDBOX (cutbox-rows.mjs): the forced cells as the released guide's own fill.sh prints them over the translation c1550c47c919d85f… (all of the seat's roots in one cut). By AI agents, Wed Nov 11 2026. No macro, syntax, notation, axiom, sorry.
-/
import Derived.Test.YthcdfdkhmlkneaaChecked
import GoSem.Claim
import GoSem.ClaimJoined
import GoSem.ClaimMapViews
import Derived.JoinedTies
import Derived.KernelRfl
namespace Go.Proofs.Ythcdfdkhmlkneaa
/- THE CELL 'sum', in the pinned program and in every row, IS THE sha256 OF THE DUMP (.gsa) THAT YthcdfdkhmlkneaaProg.lean LOADS. Nothing in Lean hashes anything: it is a label: what it is worth is what the hold of that sum in a sandbox is worth. -/
noncomputable def Try.pinned : Pinned := { name := "ythcdfdkhmlkneaa", sum := "c1550c47c919d85f7fea142fc873e660135094a62c138495096a10674331ab5a", checked := Try.checked }
namespace Rows
def none {H : Type} : Left H := { results := [], args := [] }

/-- 'wattlelaw11.StreamBlocks': WHATEVER THE INPUT: true; the input reads as it did. -/
def streamBlocksSpec : ChangeSpec := { name := "streamBlocks", fn := fun _ => fun
  | [d1, d2] => { results := [.lit (.bool true)], args := [d1, d2] }
  | _ => none }
def streamBlocksRow : OpenClaim := { program := "ythcdfdkhmlkneaa", sum := "c1550c47c919d85f7fea142fc873e660135094a62c138495096a10674331ab5a", func := "wattle/wattlelaw11.StreamBlocks", spec := "streamBlocks", apart := false }
def StreamBlocksSaid : Prop := streamBlocksRow.holds Try.pinned (OpenSpec.ofChange streamBlocksSpec)

/-- ITS FALSE NEIGHBOUR: 'it returns false'. Refute it at one input. -/
def streamBlocksWrong : ChangeSpec := { name := "streamBlocks", fn := fun _ => fun
  | [d1, d2] => { results := [.lit (.bool false)], args := [d1, d2] }
  | _ => none }
def StreamBlocksWrongFalsely : Prop := streamBlocksRow.holds Try.pinned (OpenSpec.ofChange streamBlocksWrong)

/-- 'wattlelaw18.EdgesReads': WHATEVER THE INPUT: true; the input reads as it did. -/
def edgesReadsSpec : ChangeSpec := { name := "edgesReads", fn := fun _ => fun
  | [d1, d2] => { results := [.lit (.bool true)], args := [d1, d2] }
  | _ => none }
def edgesReadsRow : OpenClaim := { program := "ythcdfdkhmlkneaa", sum := "c1550c47c919d85f7fea142fc873e660135094a62c138495096a10674331ab5a", func := "wattle/wattlelaw18.EdgesReads", spec := "edgesReads", inPlace := ["internal/bytealg.IndexByteString", "internal/bytealg.IndexString"], unfollowed := true, recurses := true, named := ["internal/bytealg.MaxLen"], apart := false }
def EdgesReadsSaid : Prop := edgesReadsRow.holds Try.pinned (OpenSpec.ofChange edgesReadsSpec)

/-- ITS FALSE NEIGHBOUR: 'it returns false'. Refute it at one input. -/
def edgesReadsWrong : ChangeSpec := { name := "edgesReads", fn := fun _ => fun
  | [d1, d2] => { results := [.lit (.bool false)], args := [d1, d2] }
  | _ => none }
def EdgesReadsWrongFalsely : Prop := edgesReadsRow.holds Try.pinned (OpenSpec.ofChange edgesReadsWrong)

/-- 'wattlelaw09.ArcPlays': WHATEVER THE INPUT: true; the input reads as it did. -/
def arcPlaysSpec : ChangeSpec := { name := "arcPlays", fn := fun _ => fun
  | [d1, d2, d3] => { results := [.lit (.bool true)], args := [d1, d2, d3] }
  | _ => none }
def arcPlaysRow : OpenClaim := { program := "ythcdfdkhmlkneaa", sum := "c1550c47c919d85f7fea142fc873e660135094a62c138495096a10674331ab5a", func := "wattle/wattlelaw09.ArcPlays", spec := "arcPlays", apart := false }
def ArcPlaysSaid : Prop := arcPlaysRow.holds Try.pinned (OpenSpec.ofChange arcPlaysSpec)

/-- ITS FALSE NEIGHBOUR: 'it returns false'. Refute it at one input. -/
def arcPlaysWrong : ChangeSpec := { name := "arcPlays", fn := fun _ => fun
  | [d1, d2, d3] => { results := [.lit (.bool false)], args := [d1, d2, d3] }
  | _ => none }
def ArcPlaysWrongFalsely : Prop := arcPlaysRow.holds Try.pinned (OpenSpec.ofChange arcPlaysWrong)

/-- 'wattlelaw09.ArcNames': WHATEVER THE INPUT: true; the input reads as it did. -/
def arcNamesSpec : ChangeSpec := { name := "arcNames", fn := fun _ => fun
  | [] => { results := [.lit (.bool true)], args := [] }
  | _ => none }
def arcNamesRow : OpenClaim := { program := "ythcdfdkhmlkneaa", sum := "c1550c47c919d85f7fea142fc873e660135094a62c138495096a10674331ab5a", func := "wattle/wattlelaw09.ArcNames", spec := "arcNames", apart := false }
def ArcNamesSaid : Prop := arcNamesRow.holds Try.pinned (OpenSpec.ofChange arcNamesSpec)

/-- ITS FALSE NEIGHBOUR: 'it returns false'. Refute it at one input. -/
def arcNamesWrong : ChangeSpec := { name := "arcNames", fn := fun _ => fun
  | [] => { results := [.lit (.bool false)], args := [] }
  | _ => none }
def ArcNamesWrongFalsely : Prop := arcNamesRow.holds Try.pinned (OpenSpec.ofChange arcNamesWrong)

/-- 'wattlelaw09.ArcBounded': WHATEVER THE INPUT: true; the input reads as it did. -/
def arcBoundedSpec : ChangeSpec := { name := "arcBounded", fn := fun _ => fun
  | [d1, d2] => { results := [.lit (.bool true)], args := [d1, d2] }
  | _ => none }
def arcBoundedRow : OpenClaim := { program := "ythcdfdkhmlkneaa", sum := "c1550c47c919d85f7fea142fc873e660135094a62c138495096a10674331ab5a", func := "wattle/wattlelaw09.ArcBounded", spec := "arcBounded", apart := false }
def ArcBoundedSaid : Prop := arcBoundedRow.holds Try.pinned (OpenSpec.ofChange arcBoundedSpec)

/-- ITS FALSE NEIGHBOUR: 'it returns false'. Refute it at one input. -/
def arcBoundedWrong : ChangeSpec := { name := "arcBounded", fn := fun _ => fun
  | [d1, d2] => { results := [.lit (.bool false)], args := [d1, d2] }
  | _ => none }
def ArcBoundedWrongFalsely : Prop := arcBoundedRow.holds Try.pinned (OpenSpec.ofChange arcBoundedWrong)

/- THE SECOND FORM. 'bulk': how many values and letters a reading holds, each counted each time it is reached (what is shared counts as often as it is met; a slice's spare places count too). A statement '..UptoSaid' is the law's where the arguments, and the package variables that the reading takes, are together of bulk at most 1048576: NARROWER than '..Said'. Prove '..Said' where nothing that the law and all that it calls make is longer than what came in: it says more and counts as full. Else prove '..UptoSaid'. A law counts once. -/
mutual
def uptoBulk {H : Type} : DataW H → Nat
  | .lit (.string bytes) => bytes.length + 1
  | .lit _ => 1
  | .nil => 1
  | .ptr d => uptoBulk d + 1
  | .slice elems spare => uptoBulkAll elems + uptoBulkAll spare + 1
  | .agg parts => uptoBulkAll parts + 1
  | .iface _ d => uptoBulk d + 1
  | .map entries => uptoBulkEntries entries + 1
  | .held _ => 1
def uptoBulkAll {H : Type} : List (DataW H) → Nat
  | [] => 0
  | d :: r => uptoBulk d + uptoBulkAll r
def uptoBulkEntries {H : Type} : List (Lit × DataW H) → Nat
  | [] => 0
  | x :: r => uptoBulkEntry x + uptoBulkEntries r
def uptoBulkEntry {H : Type} : Lit × DataW H → Nat
  | (.string bytes, d) => bytes.length + uptoBulk d + 1
  | (_, d) => uptoBulk d + 1
 end
def uptoSmall : (H : Type) → List (DataW H) → Bool := fun _ ds => decide (uptoBulkAll ds ≤ 1048576)
def OpenSpec.upto (s : _root_.Go.ChangeSpec) : _root_.Go.OpenSpec := { _root_.Go.OpenSpec.ofChange s with cond := some uptoSmall }

/-- 'wattlelaw11.StreamBlocks', WHERE WHAT IT READS IS OF BULK AT MOST 1048576: true; the input reads as it did. -/
def streamBlocksUptoRow : OpenClaim := { program := "ythcdfdkhmlkneaa", sum := "c1550c47c919d85f7fea142fc873e660135094a62c138495096a10674331ab5a", func := "wattle/wattlelaw11.StreamBlocks", spec := "streamBlocks", apart := false, narrowed := true }
def StreamBlocksUptoSaid : Prop := streamBlocksUptoRow.holds Try.pinned (OpenSpec.upto streamBlocksSpec)

/-- 'wattlelaw18.EdgesReads', WHERE WHAT IT READS IS OF BULK AT MOST 1048576: true; the input reads as it did. -/
def edgesReadsUptoRow : OpenClaim := { program := "ythcdfdkhmlkneaa", sum := "c1550c47c919d85f7fea142fc873e660135094a62c138495096a10674331ab5a", func := "wattle/wattlelaw18.EdgesReads", spec := "edgesReads", inPlace := ["internal/bytealg.IndexByteString", "internal/bytealg.IndexString"], unfollowed := true, recurses := true, named := ["internal/bytealg.MaxLen"], apart := false, narrowed := true }
def EdgesReadsUptoSaid : Prop := edgesReadsUptoRow.holds Try.pinned (OpenSpec.upto edgesReadsSpec)

/-- 'wattlelaw09.ArcPlays', WHERE WHAT IT READS IS OF BULK AT MOST 1048576: true; the input reads as it did. -/
def arcPlaysUptoRow : OpenClaim := { program := "ythcdfdkhmlkneaa", sum := "c1550c47c919d85f7fea142fc873e660135094a62c138495096a10674331ab5a", func := "wattle/wattlelaw09.ArcPlays", spec := "arcPlays", apart := false, narrowed := true }
def ArcPlaysUptoSaid : Prop := arcPlaysUptoRow.holds Try.pinned (OpenSpec.upto arcPlaysSpec)

/-- 'wattlelaw09.ArcNames', WHERE WHAT IT READS IS OF BULK AT MOST 1048576: true; the input reads as it did. -/
def arcNamesUptoRow : OpenClaim := { program := "ythcdfdkhmlkneaa", sum := "c1550c47c919d85f7fea142fc873e660135094a62c138495096a10674331ab5a", func := "wattle/wattlelaw09.ArcNames", spec := "arcNames", apart := false, narrowed := true }
def ArcNamesUptoSaid : Prop := arcNamesUptoRow.holds Try.pinned (OpenSpec.upto arcNamesSpec)

/-- 'wattlelaw09.ArcBounded', WHERE WHAT IT READS IS OF BULK AT MOST 1048576: true; the input reads as it did. -/
def arcBoundedUptoRow : OpenClaim := { program := "ythcdfdkhmlkneaa", sum := "c1550c47c919d85f7fea142fc873e660135094a62c138495096a10674331ab5a", func := "wattle/wattlelaw09.ArcBounded", spec := "arcBounded", apart := false, narrowed := true }
def ArcBoundedUptoSaid : Prop := arcBoundedUptoRow.holds Try.pinned (OpenSpec.upto arcBoundedSpec)

end Rows
end Go.Proofs.Ythcdfdkhmlkneaa
