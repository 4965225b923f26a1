/-
  NARROWER THAN 'FOR EVERY INPUT', by the rows' own cells (each row's printed sentence says how): IngestNone: laid · TriNone: laid · TurnNone: laid.
  DERIVED. THE GIVEN ROWS OF THIS SEAT. 3 by the template 'for every input the law returns true; each argument reads behind the call as it read before'; 0 by the template 'total and deterministic' (their statements: YtpcggglhnjeilaaGreatDoorTotals.lean).
  GIVEN WITH THE SEED: the statements are not yours to turn. If you find one false, say at which input.
  Laid BY PROGRAM, IN A SANDBOX (cutbox-rows.mjs): the forced cells as the released guide's own fill.sh prints them over the translation 328596337b4503f4… (all of the seat's roots in one cut). By AI agents, Wed Nov 11 2026. No macro, syntax, notation, axiom, sorry.
-/
import Derived.Test.YtpcggglhnjeilaaGreatDoorChecked
import GoSem.Claim
import GoSem.ClaimJoined
import GoSem.ClaimMapViews
import Derived.JoinedTies
import Derived.KernelRfl
namespace Go.Proofs.YtpcggglhnjeilaaGreatDoor
/- THE CELL 'sum', in the pinned program and in every row, IS THE sha256 OF THE DUMP (.gsa) THAT YtpcggglhnjeilaaGreatDoorProg.lean LOADS. Nothing in Lean hashes anything: it is a label: what it is worth is what the hold of that sum in a sandbox is worth. -/
noncomputable def Tryz.pinned : Pinned := { name := "ytpcggglhnjeilaagreatdoor", sum := "328596337b4503f42c866face3e40a99757a0653a8f9d1c2b7c2c826a1e1e2b6", checked := Tryz.checked }
namespace Rows
def none {H : Type} : Left H := { results := [], args := [] }

/- WHAT THE LISTED PACKAGE-LEVEL VARIABLES READ AS WHEN THE CALL BEGINS. Each datum BY PROGRAM (the guide's laid-datum.mjs) off the statement by which the dump's own 'gosem.cut.vars' lays the variable. In a bare row this is a premise. The card (YtpcggglhnjeilaaGreatDoorCards.lean) ties it to the program's text. -/
def laid_wattle_list_gamma {H : Type} : DataW H := .agg [.lit (.int .u8 1), .lit (.int .u64 0)]
def laid_wattle_list_unary {H : Type} : DataW H := .agg [.lit (.int .u8 0), .lit (.int .u64 0)]

/-- 'wattlelaw19.IngestNone': WHATEVER THE INPUT: true; the input reads as it did. -/
def ingestNoneSpec : ChangeSpec := { name := "ingestNone", fn := fun _ => fun
  | [] => { results := [.lit (.bool true)], args := [] }
  | _ => none }
def ingestNoneRow : OpenClaim := { program := "ytpcggglhnjeilaagreatdoor", sum := "328596337b4503f42c866face3e40a99757a0653a8f9d1c2b7c2c826a1e1e2b6", func := "wattle/wattlelaw19.IngestNone", spec := "ingestNone", inPlace := ["internal/bytealg.IndexByteString", "internal/bytealg.IndexString", "internal/abi.NoEscape"], unfollowed := true, recurses := true, named := ["internal/bytealg.MaxLen", "wattle/list.gamma", "wattle/list.unary"], apart := false, laid := [("wattle/list.gamma", laid_wattle_list_gamma), ("wattle/list.unary", laid_wattle_list_unary)] }
def IngestNoneSaid : Prop := ingestNoneRow.holds Tryz.pinned (OpenSpec.ofChange ingestNoneSpec)

/-- ITS FALSE NEIGHBOUR: 'it returns false'. Refute it at one input. -/
def ingestNoneWrong : ChangeSpec := { name := "ingestNone", fn := fun _ => fun
  | [] => { results := [.lit (.bool false)], args := [] }
  | _ => none }
def IngestNoneWrongFalsely : Prop := ingestNoneRow.holds Tryz.pinned (OpenSpec.ofChange ingestNoneWrong)

/-- 'wattlelaw26.TriNone': WHATEVER THE INPUT: true; the input reads as it did. -/
def triNoneSpec : ChangeSpec := { name := "triNone", fn := fun _ => fun
  | [] => { results := [.lit (.bool true)], args := [] }
  | _ => none }
def triNoneRow : OpenClaim := { program := "ytpcggglhnjeilaagreatdoor", sum := "328596337b4503f42c866face3e40a99757a0653a8f9d1c2b7c2c826a1e1e2b6", func := "wattle/wattlelaw26.TriNone", spec := "triNone", inPlace := ["math/bits.Add64"], unfollowed := true, recurses := true, named := ["wattle/list.gamma", "wattle/list.unary"], apart := false, laid := [("wattle/list.gamma", laid_wattle_list_gamma), ("wattle/list.unary", laid_wattle_list_unary)] }
def TriNoneSaid : Prop := triNoneRow.holds Tryz.pinned (OpenSpec.ofChange triNoneSpec)

/-- ITS FALSE NEIGHBOUR: 'it returns false'. Refute it at one input. -/
def triNoneWrong : ChangeSpec := { name := "triNone", fn := fun _ => fun
  | [] => { results := [.lit (.bool false)], args := [] }
  | _ => none }
def TriNoneWrongFalsely : Prop := triNoneRow.holds Tryz.pinned (OpenSpec.ofChange triNoneWrong)

/-- 'wattlelaw20.TurnNone': WHATEVER THE INPUT: true; the input reads as it did. -/
def turnNoneSpec : ChangeSpec := { name := "turnNone", fn := fun _ => fun
  | [] => { results := [.lit (.bool true)], args := [] }
  | _ => none }
def turnNoneRow : OpenClaim := { program := "ytpcggglhnjeilaagreatdoor", sum := "328596337b4503f42c866face3e40a99757a0653a8f9d1c2b7c2c826a1e1e2b6", func := "wattle/wattlelaw20.TurnNone", spec := "turnNone", inPlace := ["internal/abi.NoEscape"], unfollowed := true, recurses := true, named := ["wattle/list.gamma", "wattle/list.unary"], apart := false, laid := [("wattle/list.gamma", laid_wattle_list_gamma), ("wattle/list.unary", laid_wattle_list_unary)] }
def TurnNoneSaid : Prop := turnNoneRow.holds Tryz.pinned (OpenSpec.ofChange turnNoneSpec)

/-- ITS FALSE NEIGHBOUR: 'it returns false'. Refute it at one input. -/
def turnNoneWrong : ChangeSpec := { name := "turnNone", fn := fun _ => fun
  | [] => { results := [.lit (.bool false)], args := [] }
  | _ => none }
def TurnNoneWrongFalsely : Prop := turnNoneRow.holds Tryz.pinned (OpenSpec.ofChange turnNoneWrong)

/- THE SECOND FORM. 'bulk': how many values and letters a reading holds, each counted each time it is reached (what is shared counts as often as it is met; a slice's spare places count too). A statement '..UptoSaid' is the law's where the arguments, and the package variables that the reading takes, are together of bulk at most 1048576: NARROWER than '..Said'. Prove '..Said' where nothing that the law and all that it calls make is longer than what came in: it says more and counts as full. Else prove '..UptoSaid'. A law counts once. -/
mutual
def uptoBulk {H : Type} : DataW H → Nat
  | .lit (.string bytes) => bytes.length + 1
  | .lit _ => 1
  | .nil => 1
  | .ptr d => uptoBulk d + 1
  | .slice elems spare => uptoBulkAll elems + uptoBulkAll spare + 1
  | .agg parts => uptoBulkAll parts + 1
  | .iface _ d => uptoBulk d + 1
  | .map entries => uptoBulkEntries entries + 1
  | .held _ => 1
def uptoBulkAll {H : Type} : List (DataW H) → Nat
  | [] => 0
  | d :: r => uptoBulk d + uptoBulkAll r
def uptoBulkEntries {H : Type} : List (Lit × DataW H) → Nat
  | [] => 0
  | x :: r => uptoBulkEntry x + uptoBulkEntries r
def uptoBulkEntry {H : Type} : Lit × DataW H → Nat
  | (.string bytes, d) => bytes.length + uptoBulk d + 1
  | (_, d) => uptoBulk d + 1
 end
def uptoSmall : (H : Type) → List (DataW H) → Bool := fun _ ds => decide (uptoBulkAll ds ≤ 1048576)
def OpenSpec.upto (s : _root_.Go.ChangeSpec) : _root_.Go.OpenSpec := { _root_.Go.OpenSpec.ofChange s with cond := some uptoSmall }

/-- 'wattlelaw19.IngestNone', WHERE WHAT IT READS IS OF BULK AT MOST 1048576: true; the input reads as it did. -/
def ingestNoneUptoRow : OpenClaim := { program := "ytpcggglhnjeilaagreatdoor", sum := "328596337b4503f42c866face3e40a99757a0653a8f9d1c2b7c2c826a1e1e2b6", func := "wattle/wattlelaw19.IngestNone", spec := "ingestNone", inPlace := ["internal/bytealg.IndexByteString", "internal/bytealg.IndexString", "internal/abi.NoEscape"], unfollowed := true, recurses := true, named := ["internal/bytealg.MaxLen", "wattle/list.gamma", "wattle/list.unary"], apart := false, laid := [("wattle/list.gamma", laid_wattle_list_gamma), ("wattle/list.unary", laid_wattle_list_unary)], narrowed := true }
def IngestNoneUptoSaid : Prop := ingestNoneUptoRow.holds Tryz.pinned (OpenSpec.upto ingestNoneSpec)

/-- 'wattlelaw26.TriNone', WHERE WHAT IT READS IS OF BULK AT MOST 1048576: true; the input reads as it did. -/
def triNoneUptoRow : OpenClaim := { program := "ytpcggglhnjeilaagreatdoor", sum := "328596337b4503f42c866face3e40a99757a0653a8f9d1c2b7c2c826a1e1e2b6", func := "wattle/wattlelaw26.TriNone", spec := "triNone", inPlace := ["math/bits.Add64"], unfollowed := true, recurses := true, named := ["wattle/list.gamma", "wattle/list.unary"], apart := false, laid := [("wattle/list.gamma", laid_wattle_list_gamma), ("wattle/list.unary", laid_wattle_list_unary)], narrowed := true }
def TriNoneUptoSaid : Prop := triNoneUptoRow.holds Tryz.pinned (OpenSpec.upto triNoneSpec)

/-- 'wattlelaw20.TurnNone', WHERE WHAT IT READS IS OF BULK AT MOST 1048576: true; the input reads as it did. -/
def turnNoneUptoRow : OpenClaim := { program := "ytpcggglhnjeilaagreatdoor", sum := "328596337b4503f42c866face3e40a99757a0653a8f9d1c2b7c2c826a1e1e2b6", func := "wattle/wattlelaw20.TurnNone", spec := "turnNone", inPlace := ["internal/abi.NoEscape"], unfollowed := true, recurses := true, named := ["wattle/list.gamma", "wattle/list.unary"], apart := false, laid := [("wattle/list.gamma", laid_wattle_list_gamma), ("wattle/list.unary", laid_wattle_list_unary)], narrowed := true }
def TurnNoneUptoSaid : Prop := turnNoneUptoRow.holds Tryz.pinned (OpenSpec.upto turnNoneSpec)

end Rows
end Go.Proofs.YtpcggglhnjeilaaGreatDoor
