/-
  No cell of these rows narrows 'for every input' (looked for: loops, veiled, ifaces, maps, wideKeys, modest, calm, conditions, laid).
  DERIVED. THE GIVEN ROWS OF THIS SEAT. 7 by the template 'for every input the law returns true; each argument reads behind the call as it read before'; 0 by the template 'total and deterministic' (their statements: YthaicpbdlhkkkaaTotals.lean).
  GIVEN WITH THE SEED: the statements are not yours to turn. If you find one false, say at which input.
  Laid BY PROGRAM, IN A SANDBOX (cutbox-rows.mjs): the forced cells as the released guide's own fill.sh prints them over the translation 9669a2c4f936ffad… (all of the seat's roots in one cut). By AI agents, Wed Nov 11 2026. No macro, syntax, notation, axiom, sorry.
-/
import Derived.Test.YthaicpbdlhkkkaaChecked
import GoSem.Claim
import GoSem.ClaimJoined
import GoSem.ClaimMapViews
import Derived.JoinedTies
import Derived.KernelRfl
namespace Go.Proofs.Ythaicpbdlhkkkaa
/- THE CELL 'sum', in the pinned program and in every row, IS THE sha256 OF THE DUMP (.gsa) THAT YthaicpbdlhkkkaaProg.lean LOADS. Nothing in Lean hashes anything: it is a label: what it is worth is what the hold of that sum in a sandbox is worth. -/
noncomputable def Try.pinned : Pinned := { name := "ythaicpbdlhkkkaa", sum := "9669a2c4f936ffada083dc4d322a34eb23e29cfd43767abfa706fcab5835c27a", checked := Try.checked }
namespace Rows
def none {H : Type} : Left H := { results := [], args := [] }

/-- 'wattlelaw18.EdgesReads': WHATEVER THE INPUT: true; the input reads as it did. -/
def edgesReadsSpec : ChangeSpec := { name := "edgesReads", fn := fun _ => fun
  | [d1, d2] => { results := [.lit (.bool true)], args := [d1, d2] }
  | _ => none }
def edgesReadsRow : OpenClaim := { program := "ythaicpbdlhkkkaa", sum := "9669a2c4f936ffada083dc4d322a34eb23e29cfd43767abfa706fcab5835c27a", func := "wattle/wattlelaw18.EdgesReads", spec := "edgesReads", inPlace := ["internal/bytealg.IndexByteString", "internal/bytealg.IndexString"], unfollowed := true, recurses := true, named := ["internal/bytealg.MaxLen"], apart := false }
def EdgesReadsSaid : Prop := edgesReadsRow.holds Try.pinned (OpenSpec.ofChange edgesReadsSpec)

/-- ITS FALSE NEIGHBOUR: 'it returns false'. Refute it at one input. -/
def edgesReadsWrong : ChangeSpec := { name := "edgesReads", fn := fun _ => fun
  | [d1, d2] => { results := [.lit (.bool false)], args := [d1, d2] }
  | _ => none }
def EdgesReadsWrongFalsely : Prop := edgesReadsRow.holds Try.pinned (OpenSpec.ofChange edgesReadsWrong)

/-- 'wattlelaw18.EdgesShown': WHATEVER THE INPUT: true; the input reads as it did. -/
def edgesShownSpec : ChangeSpec := { name := "edgesShown", fn := fun _ => fun
  | [d1, d2] => { results := [.lit (.bool true)], args := [d1, d2] }
  | _ => none }
def edgesShownRow : OpenClaim := { program := "ythaicpbdlhkkkaa", sum := "9669a2c4f936ffada083dc4d322a34eb23e29cfd43767abfa706fcab5835c27a", func := "wattle/wattlelaw18.EdgesShown", spec := "edgesShown", inPlace := ["internal/bytealg.IndexByteString", "internal/bytealg.IndexString"], unfollowed := true, recurses := true, named := ["internal/bytealg.MaxLen"], apart := false }
def EdgesShownSaid : Prop := edgesShownRow.holds Try.pinned (OpenSpec.ofChange edgesShownSpec)

/-- ITS FALSE NEIGHBOUR: 'it returns false'. Refute it at one input. -/
def edgesShownWrong : ChangeSpec := { name := "edgesShown", fn := fun _ => fun
  | [d1, d2] => { results := [.lit (.bool false)], args := [d1, d2] }
  | _ => none }
def EdgesShownWrongFalsely : Prop := edgesShownRow.holds Try.pinned (OpenSpec.ofChange edgesShownWrong)

/-- 'wattlelaw18.EdgesBack': WHATEVER THE INPUT: true; the input reads as it did. -/
def edgesBackSpec : ChangeSpec := { name := "edgesBack", fn := fun _ => fun
  | [d1, d2, d3] => { results := [.lit (.bool true)], args := [d1, d2, d3] }
  | _ => none }
def edgesBackRow : OpenClaim := { program := "ythaicpbdlhkkkaa", sum := "9669a2c4f936ffada083dc4d322a34eb23e29cfd43767abfa706fcab5835c27a", func := "wattle/wattlelaw18.EdgesBack", spec := "edgesBack", inPlace := ["internal/bytealg.IndexByteString", "internal/bytealg.IndexString"], unfollowed := true, recurses := true, named := ["internal/bytealg.MaxLen"], apart := false }
def EdgesBackSaid : Prop := edgesBackRow.holds Try.pinned (OpenSpec.ofChange edgesBackSpec)

/-- ITS FALSE NEIGHBOUR: 'it returns false'. Refute it at one input. -/
def edgesBackWrong : ChangeSpec := { name := "edgesBack", fn := fun _ => fun
  | [d1, d2, d3] => { results := [.lit (.bool false)], args := [d1, d2, d3] }
  | _ => none }
def EdgesBackWrongFalsely : Prop := edgesBackRow.holds Try.pinned (OpenSpec.ofChange edgesBackWrong)

/-- 'wattlelaw18.EdgesNone': WHATEVER THE INPUT: true; the input reads as it did. -/
def edgesNoneSpec : ChangeSpec := { name := "edgesNone", fn := fun _ => fun
  | [] => { results := [.lit (.bool true)], args := [] }
  | _ => none }
def edgesNoneRow : OpenClaim := { program := "ythaicpbdlhkkkaa", sum := "9669a2c4f936ffada083dc4d322a34eb23e29cfd43767abfa706fcab5835c27a", func := "wattle/wattlelaw18.EdgesNone", spec := "edgesNone", inPlace := ["internal/bytealg.IndexByteString", "internal/bytealg.IndexString"], unfollowed := true, recurses := true, named := ["internal/bytealg.MaxLen"], apart := false }
def EdgesNoneSaid : Prop := edgesNoneRow.holds Try.pinned (OpenSpec.ofChange edgesNoneSpec)

/-- ITS FALSE NEIGHBOUR: 'it returns false'. Refute it at one input. -/
def edgesNoneWrong : ChangeSpec := { name := "edgesNone", fn := fun _ => fun
  | [] => { results := [.lit (.bool false)], args := [] }
  | _ => none }
def EdgesNoneWrongFalsely : Prop := edgesNoneRow.holds Try.pinned (OpenSpec.ofChange edgesNoneWrong)

/-- 'wattlelaw12.EfTexts': WHATEVER THE INPUT: true; the input reads as it did. -/
def efTextsSpec : ChangeSpec := { name := "efTexts", fn := fun _ => fun
  | [d1, d2, d3] => { results := [.lit (.bool true)], args := [d1, d2, d3] }
  | _ => none }
def efTextsRow : OpenClaim := { program := "ythaicpbdlhkkkaa", sum := "9669a2c4f936ffada083dc4d322a34eb23e29cfd43767abfa706fcab5835c27a", func := "wattle/wattlelaw12.EfTexts", spec := "efTexts", unfollowed := true, recurses := true, apart := false }
def EfTextsSaid : Prop := efTextsRow.holds Try.pinned (OpenSpec.ofChange efTextsSpec)

/-- ITS FALSE NEIGHBOUR: 'it returns false'. Refute it at one input. -/
def efTextsWrong : ChangeSpec := { name := "efTexts", fn := fun _ => fun
  | [d1, d2, d3] => { results := [.lit (.bool false)], args := [d1, d2, d3] }
  | _ => none }
def EfTextsWrongFalsely : Prop := efTextsRow.holds Try.pinned (OpenSpec.ofChange efTextsWrong)

/-- 'wattlelaw12.EfReads': WHATEVER THE INPUT: true; the input reads as it did. -/
def efReadsSpec : ChangeSpec := { name := "efReads", fn := fun _ => fun
  | [d1, d2] => { results := [.lit (.bool true)], args := [d1, d2] }
  | _ => none }
def efReadsRow : OpenClaim := { program := "ythaicpbdlhkkkaa", sum := "9669a2c4f936ffada083dc4d322a34eb23e29cfd43767abfa706fcab5835c27a", func := "wattle/wattlelaw12.EfReads", spec := "efReads", unfollowed := true, recurses := true, apart := false }
def EfReadsSaid : Prop := efReadsRow.holds Try.pinned (OpenSpec.ofChange efReadsSpec)

/-- ITS FALSE NEIGHBOUR: 'it returns false'. Refute it at one input. -/
def efReadsWrong : ChangeSpec := { name := "efReads", fn := fun _ => fun
  | [d1, d2] => { results := [.lit (.bool false)], args := [d1, d2] }
  | _ => none }
def EfReadsWrongFalsely : Prop := efReadsRow.holds Try.pinned (OpenSpec.ofChange efReadsWrong)

/-- 'wattlelaw12.EfBack': WHATEVER THE INPUT: true; the input reads as it did. -/
def efBackSpec : ChangeSpec := { name := "efBack", fn := fun _ => fun
  | [d1, d2] => { results := [.lit (.bool true)], args := [d1, d2] }
  | _ => none }
def efBackRow : OpenClaim := { program := "ythaicpbdlhkkkaa", sum := "9669a2c4f936ffada083dc4d322a34eb23e29cfd43767abfa706fcab5835c27a", func := "wattle/wattlelaw12.EfBack", spec := "efBack", unfollowed := true, recurses := true, apart := false }
def EfBackSaid : Prop := efBackRow.holds Try.pinned (OpenSpec.ofChange efBackSpec)

/-- ITS FALSE NEIGHBOUR: 'it returns false'. Refute it at one input. -/
def efBackWrong : ChangeSpec := { name := "efBack", fn := fun _ => fun
  | [d1, d2] => { results := [.lit (.bool false)], args := [d1, d2] }
  | _ => none }
def EfBackWrongFalsely : Prop := efBackRow.holds Try.pinned (OpenSpec.ofChange efBackWrong)

/- THE SECOND FORM. 'bulk': how many values and letters a reading holds, each counted each time it is reached (what is shared counts as often as it is met; a slice's spare places count too). A statement '..UptoSaid' is the law's where the arguments, and the package variables that the reading takes, are together of bulk at most 1048576: NARROWER than '..Said'. Prove '..Said' where nothing that the law and all that it calls make is longer than what came in: it says more and counts as full. Else prove '..UptoSaid'. A law counts once. -/
mutual
def uptoBulk {H : Type} : DataW H → Nat
  | .lit (.string bytes) => bytes.length + 1
  | .lit _ => 1
  | .nil => 1
  | .ptr d => uptoBulk d + 1
  | .slice elems spare => uptoBulkAll elems + uptoBulkAll spare + 1
  | .agg parts => uptoBulkAll parts + 1
  | .iface _ d => uptoBulk d + 1
  | .map entries => uptoBulkEntries entries + 1
  | .held _ => 1
def uptoBulkAll {H : Type} : List (DataW H) → Nat
  | [] => 0
  | d :: r => uptoBulk d + uptoBulkAll r
def uptoBulkEntries {H : Type} : List (Lit × DataW H) → Nat
  | [] => 0
  | x :: r => uptoBulkEntry x + uptoBulkEntries r
def uptoBulkEntry {H : Type} : Lit × DataW H → Nat
  | (.string bytes, d) => bytes.length + uptoBulk d + 1
  | (_, d) => uptoBulk d + 1
 end
def uptoSmall : (H : Type) → List (DataW H) → Bool := fun _ ds => decide (uptoBulkAll ds ≤ 1048576)
def OpenSpec.upto (s : _root_.Go.ChangeSpec) : _root_.Go.OpenSpec := { _root_.Go.OpenSpec.ofChange s with cond := some uptoSmall }

/-- 'wattlelaw18.EdgesReads', WHERE WHAT IT READS IS OF BULK AT MOST 1048576: true; the input reads as it did. -/
def edgesReadsUptoRow : OpenClaim := { program := "ythaicpbdlhkkkaa", sum := "9669a2c4f936ffada083dc4d322a34eb23e29cfd43767abfa706fcab5835c27a", func := "wattle/wattlelaw18.EdgesReads", spec := "edgesReads", inPlace := ["internal/bytealg.IndexByteString", "internal/bytealg.IndexString"], unfollowed := true, recurses := true, named := ["internal/bytealg.MaxLen"], apart := false, narrowed := true }
def EdgesReadsUptoSaid : Prop := edgesReadsUptoRow.holds Try.pinned (OpenSpec.upto edgesReadsSpec)

/-- 'wattlelaw18.EdgesShown', WHERE WHAT IT READS IS OF BULK AT MOST 1048576: true; the input reads as it did. -/
def edgesShownUptoRow : OpenClaim := { program := "ythaicpbdlhkkkaa", sum := "9669a2c4f936ffada083dc4d322a34eb23e29cfd43767abfa706fcab5835c27a", func := "wattle/wattlelaw18.EdgesShown", spec := "edgesShown", inPlace := ["internal/bytealg.IndexByteString", "internal/bytealg.IndexString"], unfollowed := true, recurses := true, named := ["internal/bytealg.MaxLen"], apart := false, narrowed := true }
def EdgesShownUptoSaid : Prop := edgesShownUptoRow.holds Try.pinned (OpenSpec.upto edgesShownSpec)

/-- 'wattlelaw18.EdgesBack', WHERE WHAT IT READS IS OF BULK AT MOST 1048576: true; the input reads as it did. -/
def edgesBackUptoRow : OpenClaim := { program := "ythaicpbdlhkkkaa", sum := "9669a2c4f936ffada083dc4d322a34eb23e29cfd43767abfa706fcab5835c27a", func := "wattle/wattlelaw18.EdgesBack", spec := "edgesBack", inPlace := ["internal/bytealg.IndexByteString", "internal/bytealg.IndexString"], unfollowed := true, recurses := true, named := ["internal/bytealg.MaxLen"], apart := false, narrowed := true }
def EdgesBackUptoSaid : Prop := edgesBackUptoRow.holds Try.pinned (OpenSpec.upto edgesBackSpec)

/-- 'wattlelaw18.EdgesNone', WHERE WHAT IT READS IS OF BULK AT MOST 1048576: true; the input reads as it did. -/
def edgesNoneUptoRow : OpenClaim := { program := "ythaicpbdlhkkkaa", sum := "9669a2c4f936ffada083dc4d322a34eb23e29cfd43767abfa706fcab5835c27a", func := "wattle/wattlelaw18.EdgesNone", spec := "edgesNone", inPlace := ["internal/bytealg.IndexByteString", "internal/bytealg.IndexString"], unfollowed := true, recurses := true, named := ["internal/bytealg.MaxLen"], apart := false, narrowed := true }
def EdgesNoneUptoSaid : Prop := edgesNoneUptoRow.holds Try.pinned (OpenSpec.upto edgesNoneSpec)

/-- 'wattlelaw12.EfTexts', WHERE WHAT IT READS IS OF BULK AT MOST 1048576: true; the input reads as it did. -/
def efTextsUptoRow : OpenClaim := { program := "ythaicpbdlhkkkaa", sum := "9669a2c4f936ffada083dc4d322a34eb23e29cfd43767abfa706fcab5835c27a", func := "wattle/wattlelaw12.EfTexts", spec := "efTexts", unfollowed := true, recurses := true, apart := false, narrowed := true }
def EfTextsUptoSaid : Prop := efTextsUptoRow.holds Try.pinned (OpenSpec.upto efTextsSpec)

/-- 'wattlelaw12.EfReads', WHERE WHAT IT READS IS OF BULK AT MOST 1048576: true; the input reads as it did. -/
def efReadsUptoRow : OpenClaim := { program := "ythaicpbdlhkkkaa", sum := "9669a2c4f936ffada083dc4d322a34eb23e29cfd43767abfa706fcab5835c27a", func := "wattle/wattlelaw12.EfReads", spec := "efReads", unfollowed := true, recurses := true, apart := false, narrowed := true }
def EfReadsUptoSaid : Prop := efReadsUptoRow.holds Try.pinned (OpenSpec.upto efReadsSpec)

/-- 'wattlelaw12.EfBack', WHERE WHAT IT READS IS OF BULK AT MOST 1048576: true; the input reads as it did. -/
def efBackUptoRow : OpenClaim := { program := "ythaicpbdlhkkkaa", sum := "9669a2c4f936ffada083dc4d322a34eb23e29cfd43767abfa706fcab5835c27a", func := "wattle/wattlelaw12.EfBack", spec := "efBack", unfollowed := true, recurses := true, apart := false, narrowed := true }
def EfBackUptoSaid : Prop := efBackUptoRow.holds Try.pinned (OpenSpec.upto efBackSpec)

end Rows
end Go.Proofs.Ythaicpbdlhkkkaa
