/-
  NARROWER THAN 'FOR EVERY INPUT', by the rows' own cells (each row's printed sentence says how): ListDecodes: laid · BvEncodes: laid · BvDecodes: laid · BvPacks: laid.
  DERIVED. THE GIVEN ROWS OF THIS SEAT. 4 by the template 'for every input the law returns true; each argument reads behind the call as it read before'; 0 by the template 'total and deterministic' (their statements: YtflnpcgnenhogaaGreatDoorTotals.lean).
  GIVEN WITH THE SEED: the statements are not yours to turn. If you find one false, say at which input.
  Laid BY PROGRAM, IN A SANDBOX (cutbox-rows.mjs): the forced cells as the released guide's own fill.sh prints them over the translation 9dca145c0df33ddc… (all of the seat's roots in one cut). By AI agents, Wed Nov 11 2026. No macro, syntax, notation, axiom, sorry.
-/
import Derived.Test.YtflnpcgnenhogaaGreatDoorChecked
import GoSem.Claim
import GoSem.ClaimJoined
import GoSem.ClaimMapViews
import Derived.JoinedTies
import Derived.KernelRfl
namespace Go.Proofs.YtflnpcgnenhogaaGreatDoor
/- THE CELL 'sum', in the pinned program and in every row, IS THE sha256 OF THE DUMP (.gsa) THAT YtflnpcgnenhogaaGreatDoorProg.lean LOADS. Nothing in Lean hashes anything: it is a label: what it is worth is what the hold of that sum in a sandbox is worth. -/
noncomputable def Tryz.pinned : Pinned := { name := "ytflnpcgnenhogaagreatdoor", sum := "9dca145c0df33ddc755f0500fae0ffdb209028d4185adfcd73f90f17d451ec81", checked := Tryz.checked }
namespace Rows
def none {H : Type} : Left H := { results := [], args := [] }

/- WHAT THE LISTED PACKAGE-LEVEL VARIABLES READ AS WHEN THE CALL BEGINS. Each datum BY PROGRAM (the guide's laid-datum.mjs) off the statement by which the dump's own 'gosem.cut.vars' lays the variable. In a bare row this is a premise. The card (YtflnpcgnenhogaaGreatDoorCards.lean) ties it to the program's text. -/
def laid_wattle_list_gamma {H : Type} : DataW H := .agg [.lit (.int .u8 1), .lit (.int .u64 0)]
def laid_wattle_list_unary {H : Type} : DataW H := .agg [.lit (.int .u8 0), .lit (.int .u64 0)]

/-- 'wattlelaw13.ListDecodes': WHATEVER THE INPUT: true; the input reads as it did. -/
def listDecodesSpec : ChangeSpec := { name := "listDecodes", fn := fun _ => fun
  | [d1, d2, d3] => { results := [.lit (.bool true)], args := [d1, d2, d3] }
  | _ => none }
def listDecodesRow : OpenClaim := { program := "ytflnpcgnenhogaagreatdoor", sum := "9dca145c0df33ddc755f0500fae0ffdb209028d4185adfcd73f90f17d451ec81", func := "wattle/wattlelaw13.ListDecodes", spec := "listDecodes", unfollowed := true, recurses := true, named := ["wattle/list.gamma", "wattle/list.unary"], apart := false, laid := [("wattle/list.gamma", laid_wattle_list_gamma), ("wattle/list.unary", laid_wattle_list_unary)] }
def ListDecodesSaid : Prop := listDecodesRow.holds Tryz.pinned (OpenSpec.ofChange listDecodesSpec)

/-- ITS FALSE NEIGHBOUR: 'it returns false'. Refute it at one input. -/
def listDecodesWrong : ChangeSpec := { name := "listDecodes", fn := fun _ => fun
  | [d1, d2, d3] => { results := [.lit (.bool false)], args := [d1, d2, d3] }
  | _ => none }
def ListDecodesWrongFalsely : Prop := listDecodesRow.holds Tryz.pinned (OpenSpec.ofChange listDecodesWrong)

/-- 'wattlelaw14.BvEncodes': WHATEVER THE INPUT: true; the input reads as it did. -/
def bvEncodesSpec : ChangeSpec := { name := "bvEncodes", fn := fun _ => fun
  | [d1, d2] => { results := [.lit (.bool true)], args := [d1, d2] }
  | _ => none }
def bvEncodesRow : OpenClaim := { program := "ytflnpcgnenhogaagreatdoor", sum := "9dca145c0df33ddc755f0500fae0ffdb209028d4185adfcd73f90f17d451ec81", func := "wattle/wattlelaw14.BvEncodes", spec := "bvEncodes", unfollowed := true, recurses := true, named := ["wattle/list.gamma", "wattle/list.unary"], apart := false, laid := [("wattle/list.gamma", laid_wattle_list_gamma), ("wattle/list.unary", laid_wattle_list_unary)] }
def BvEncodesSaid : Prop := bvEncodesRow.holds Tryz.pinned (OpenSpec.ofChange bvEncodesSpec)

/-- ITS FALSE NEIGHBOUR: 'it returns false'. Refute it at one input. -/
def bvEncodesWrong : ChangeSpec := { name := "bvEncodes", fn := fun _ => fun
  | [d1, d2] => { results := [.lit (.bool false)], args := [d1, d2] }
  | _ => none }
def BvEncodesWrongFalsely : Prop := bvEncodesRow.holds Tryz.pinned (OpenSpec.ofChange bvEncodesWrong)

/-- 'wattlelaw14.BvDecodes': WHATEVER THE INPUT: true; the input reads as it did. -/
def bvDecodesSpec : ChangeSpec := { name := "bvDecodes", fn := fun _ => fun
  | [d1, d2] => { results := [.lit (.bool true)], args := [d1, d2] }
  | _ => none }
def bvDecodesRow : OpenClaim := { program := "ytflnpcgnenhogaagreatdoor", sum := "9dca145c0df33ddc755f0500fae0ffdb209028d4185adfcd73f90f17d451ec81", func := "wattle/wattlelaw14.BvDecodes", spec := "bvDecodes", unfollowed := true, recurses := true, named := ["wattle/list.gamma", "wattle/list.unary"], apart := false, laid := [("wattle/list.gamma", laid_wattle_list_gamma), ("wattle/list.unary", laid_wattle_list_unary)] }
def BvDecodesSaid : Prop := bvDecodesRow.holds Tryz.pinned (OpenSpec.ofChange bvDecodesSpec)

/-- ITS FALSE NEIGHBOUR: 'it returns false'. Refute it at one input. -/
def bvDecodesWrong : ChangeSpec := { name := "bvDecodes", fn := fun _ => fun
  | [d1, d2] => { results := [.lit (.bool false)], args := [d1, d2] }
  | _ => none }
def BvDecodesWrongFalsely : Prop := bvDecodesRow.holds Tryz.pinned (OpenSpec.ofChange bvDecodesWrong)

/-- 'wattlelaw14.BvPacks': WHATEVER THE INPUT: true; the input reads as it did. -/
def bvPacksSpec : ChangeSpec := { name := "bvPacks", fn := fun _ => fun
  | [d1, d2, d3] => { results := [.lit (.bool true)], args := [d1, d2, d3] }
  | _ => none }
def bvPacksRow : OpenClaim := { program := "ytflnpcgnenhogaagreatdoor", sum := "9dca145c0df33ddc755f0500fae0ffdb209028d4185adfcd73f90f17d451ec81", func := "wattle/wattlelaw14.BvPacks", spec := "bvPacks", unfollowed := true, recurses := true, named := ["wattle/list.gamma", "wattle/list.unary"], apart := false, laid := [("wattle/list.gamma", laid_wattle_list_gamma), ("wattle/list.unary", laid_wattle_list_unary)] }
def BvPacksSaid : Prop := bvPacksRow.holds Tryz.pinned (OpenSpec.ofChange bvPacksSpec)

/-- ITS FALSE NEIGHBOUR: 'it returns false'. Refute it at one input. -/
def bvPacksWrong : ChangeSpec := { name := "bvPacks", fn := fun _ => fun
  | [d1, d2, d3] => { results := [.lit (.bool false)], args := [d1, d2, d3] }
  | _ => none }
def BvPacksWrongFalsely : Prop := bvPacksRow.holds Tryz.pinned (OpenSpec.ofChange bvPacksWrong)

/- THE SECOND FORM. 'bulk': how many values and letters a reading holds, each counted each time it is reached (what is shared counts as often as it is met; a slice's spare places count too). A statement '..UptoSaid' is the law's where the arguments, and the package variables that the reading takes, are together of bulk at most 1048576: NARROWER than '..Said'. Prove '..Said' where nothing that the law and all that it calls make is longer than what came in: it says more and counts as full. Else prove '..UptoSaid'. A law counts once. -/
mutual
def uptoBulk {H : Type} : DataW H → Nat
  | .lit (.string bytes) => bytes.length + 1
  | .lit _ => 1
  | .nil => 1
  | .ptr d => uptoBulk d + 1
  | .slice elems spare => uptoBulkAll elems + uptoBulkAll spare + 1
  | .agg parts => uptoBulkAll parts + 1
  | .iface _ d => uptoBulk d + 1
  | .map entries => uptoBulkEntries entries + 1
  | .held _ => 1
def uptoBulkAll {H : Type} : List (DataW H) → Nat
  | [] => 0
  | d :: r => uptoBulk d + uptoBulkAll r
def uptoBulkEntries {H : Type} : List (Lit × DataW H) → Nat
  | [] => 0
  | x :: r => uptoBulkEntry x + uptoBulkEntries r
def uptoBulkEntry {H : Type} : Lit × DataW H → Nat
  | (.string bytes, d) => bytes.length + uptoBulk d + 1
  | (_, d) => uptoBulk d + 1
 end
def uptoSmall : (H : Type) → List (DataW H) → Bool := fun _ ds => decide (uptoBulkAll ds ≤ 1048576)
def OpenSpec.upto (s : _root_.Go.ChangeSpec) : _root_.Go.OpenSpec := { _root_.Go.OpenSpec.ofChange s with cond := some uptoSmall }

/-- 'wattlelaw13.ListDecodes', WHERE WHAT IT READS IS OF BULK AT MOST 1048576: true; the input reads as it did. -/
def listDecodesUptoRow : OpenClaim := { program := "ytflnpcgnenhogaagreatdoor", sum := "9dca145c0df33ddc755f0500fae0ffdb209028d4185adfcd73f90f17d451ec81", func := "wattle/wattlelaw13.ListDecodes", spec := "listDecodes", unfollowed := true, recurses := true, named := ["wattle/list.gamma", "wattle/list.unary"], apart := false, laid := [("wattle/list.gamma", laid_wattle_list_gamma), ("wattle/list.unary", laid_wattle_list_unary)], narrowed := true }
def ListDecodesUptoSaid : Prop := listDecodesUptoRow.holds Tryz.pinned (OpenSpec.upto listDecodesSpec)

/-- 'wattlelaw14.BvEncodes', WHERE WHAT IT READS IS OF BULK AT MOST 1048576: true; the input reads as it did. -/
def bvEncodesUptoRow : OpenClaim := { program := "ytflnpcgnenhogaagreatdoor", sum := "9dca145c0df33ddc755f0500fae0ffdb209028d4185adfcd73f90f17d451ec81", func := "wattle/wattlelaw14.BvEncodes", spec := "bvEncodes", unfollowed := true, recurses := true, named := ["wattle/list.gamma", "wattle/list.unary"], apart := false, laid := [("wattle/list.gamma", laid_wattle_list_gamma), ("wattle/list.unary", laid_wattle_list_unary)], narrowed := true }
def BvEncodesUptoSaid : Prop := bvEncodesUptoRow.holds Tryz.pinned (OpenSpec.upto bvEncodesSpec)

/-- 'wattlelaw14.BvDecodes', WHERE WHAT IT READS IS OF BULK AT MOST 1048576: true; the input reads as it did. -/
def bvDecodesUptoRow : OpenClaim := { program := "ytflnpcgnenhogaagreatdoor", sum := "9dca145c0df33ddc755f0500fae0ffdb209028d4185adfcd73f90f17d451ec81", func := "wattle/wattlelaw14.BvDecodes", spec := "bvDecodes", unfollowed := true, recurses := true, named := ["wattle/list.gamma", "wattle/list.unary"], apart := false, laid := [("wattle/list.gamma", laid_wattle_list_gamma), ("wattle/list.unary", laid_wattle_list_unary)], narrowed := true }
def BvDecodesUptoSaid : Prop := bvDecodesUptoRow.holds Tryz.pinned (OpenSpec.upto bvDecodesSpec)

/-- 'wattlelaw14.BvPacks', WHERE WHAT IT READS IS OF BULK AT MOST 1048576: true; the input reads as it did. -/
def bvPacksUptoRow : OpenClaim := { program := "ytflnpcgnenhogaagreatdoor", sum := "9dca145c0df33ddc755f0500fae0ffdb209028d4185adfcd73f90f17d451ec81", func := "wattle/wattlelaw14.BvPacks", spec := "bvPacks", unfollowed := true, recurses := true, named := ["wattle/list.gamma", "wattle/list.unary"], apart := false, laid := [("wattle/list.gamma", laid_wattle_list_gamma), ("wattle/list.unary", laid_wattle_list_unary)], narrowed := true }
def BvPacksUptoSaid : Prop := bvPacksUptoRow.holds Tryz.pinned (OpenSpec.upto bvPacksSpec)

end Rows
end Go.Proofs.YtflnpcgnenhogaaGreatDoor
