/-
  NARROWER THAN 'FOR EVERY INPUT', by the rows' own cells (each row's printed sentence says how): ListEncodes: laid · ListBack: laid · ListFew: laid · BvBack: laid.
  DERIVED. THE GIVEN ROWS OF THIS SEAT. 4 by the template 'for every input the law returns true; each argument reads behind the call as it read before'; 0 by the template 'total and deterministic' (their statements: YtflnpcgnenhogaaDoorTotals.lean).
  GIVEN WITH THE SEED: the statements are not yours to turn. If you find one false, say at which input.
  Laid BY PROGRAM, IN A SANDBOX (cutbox-rows.mjs): the forced cells as the released guide's own fill.sh prints them over the translation 4f8eceb7d1fa6235… (all of the seat's roots in one cut). By AI agents, Wed Nov 11 2026. No macro, syntax, notation, axiom, sorry.
-/
import Derived.Test.YtflnpcgnenhogaaDoorChecked
import GoSem.Claim
import GoSem.ClaimJoined
import GoSem.ClaimMapViews
import Derived.JoinedTies
import Derived.KernelRfl
namespace Go.Proofs.YtflnpcgnenhogaaDoor
/- THE CELL 'sum', in the pinned program and in every row, IS THE sha256 OF THE DUMP (.gsa) THAT YtflnpcgnenhogaaDoorProg.lean LOADS. Nothing in Lean hashes anything: it is a label: what it is worth is what the hold of that sum in a sandbox is worth. -/
noncomputable def Tryd.pinned : Pinned := { name := "ytflnpcgnenhogaadoor", sum := "4f8eceb7d1fa62351f19d92a55b6cd5c782f5abdec8e94974baaed17b62e529c", checked := Tryd.checked }
namespace Rows
def none {H : Type} : Left H := { results := [], args := [] }

/- WHAT THE LISTED PACKAGE-LEVEL VARIABLES READ AS WHEN THE CALL BEGINS. Each datum BY PROGRAM (the guide's laid-datum.mjs) off the statement by which the dump's own 'gosem.cut.vars' lays the variable. In a bare row this is a premise. The card (YtflnpcgnenhogaaDoorCards.lean) ties it to the program's text. -/
def laid_wattle_list_gamma {H : Type} : DataW H := .agg [.lit (.int .u8 1), .lit (.int .u64 0)]
def laid_wattle_list_unary {H : Type} : DataW H := .agg [.lit (.int .u8 0), .lit (.int .u64 0)]

/-- 'wattlelaw13.ListEncodes': WHATEVER THE INPUT: true; the input reads as it did. -/
def listEncodesSpec : ChangeSpec := { name := "listEncodes", fn := fun _ => fun
  | [d] => { results := [.lit (.bool true)], args := [d] }
  | _ => none }
def listEncodesRow : OpenClaim := { program := "ytflnpcgnenhogaadoor", sum := "4f8eceb7d1fa62351f19d92a55b6cd5c782f5abdec8e94974baaed17b62e529c", func := "wattle/wattlelaw13.ListEncodes", spec := "listEncodes", unfollowed := true, recurses := true, named := ["wattle/list.gamma", "wattle/list.unary"], apart := false, laid := [("wattle/list.gamma", laid_wattle_list_gamma), ("wattle/list.unary", laid_wattle_list_unary)] }
def ListEncodesSaid : Prop := listEncodesRow.holds Tryd.pinned (OpenSpec.ofChange listEncodesSpec)

/-- ITS FALSE NEIGHBOUR: 'it returns false'. Refute it at one input. -/
def listEncodesWrong : ChangeSpec := { name := "listEncodes", fn := fun _ => fun
  | [d] => { results := [.lit (.bool false)], args := [d] }
  | _ => none }
def ListEncodesWrongFalsely : Prop := listEncodesRow.holds Tryd.pinned (OpenSpec.ofChange listEncodesWrong)

/-- 'wattlelaw13.ListBack': WHATEVER THE INPUT: true; the input reads as it did. -/
def listBackSpec : ChangeSpec := { name := "listBack", fn := fun _ => fun
  | [d] => { results := [.lit (.bool true)], args := [d] }
  | _ => none }
def listBackRow : OpenClaim := { program := "ytflnpcgnenhogaadoor", sum := "4f8eceb7d1fa62351f19d92a55b6cd5c782f5abdec8e94974baaed17b62e529c", func := "wattle/wattlelaw13.ListBack", spec := "listBack", unfollowed := true, recurses := true, named := ["wattle/list.gamma", "wattle/list.unary"], apart := false, laid := [("wattle/list.gamma", laid_wattle_list_gamma), ("wattle/list.unary", laid_wattle_list_unary)] }
def ListBackSaid : Prop := listBackRow.holds Tryd.pinned (OpenSpec.ofChange listBackSpec)

/-- ITS FALSE NEIGHBOUR: 'it returns false'. Refute it at one input. -/
def listBackWrong : ChangeSpec := { name := "listBack", fn := fun _ => fun
  | [d] => { results := [.lit (.bool false)], args := [d] }
  | _ => none }
def ListBackWrongFalsely : Prop := listBackRow.holds Tryd.pinned (OpenSpec.ofChange listBackWrong)

/-- 'wattlelaw13.ListFew': WHATEVER THE INPUT: true; the input reads as it did. -/
def listFewSpec : ChangeSpec := { name := "listFew", fn := fun _ => fun
  | [d1, d2, d3] => { results := [.lit (.bool true)], args := [d1, d2, d3] }
  | _ => none }
def listFewRow : OpenClaim := { program := "ytflnpcgnenhogaadoor", sum := "4f8eceb7d1fa62351f19d92a55b6cd5c782f5abdec8e94974baaed17b62e529c", func := "wattle/wattlelaw13.ListFew", spec := "listFew", unfollowed := true, recurses := true, named := ["wattle/list.gamma", "wattle/list.unary"], apart := false, laid := [("wattle/list.gamma", laid_wattle_list_gamma), ("wattle/list.unary", laid_wattle_list_unary)] }
def ListFewSaid : Prop := listFewRow.holds Tryd.pinned (OpenSpec.ofChange listFewSpec)

/-- ITS FALSE NEIGHBOUR: 'it returns false'. Refute it at one input. -/
def listFewWrong : ChangeSpec := { name := "listFew", fn := fun _ => fun
  | [d1, d2, d3] => { results := [.lit (.bool false)], args := [d1, d2, d3] }
  | _ => none }
def ListFewWrongFalsely : Prop := listFewRow.holds Tryd.pinned (OpenSpec.ofChange listFewWrong)

/-- 'wattlelaw14.BvBack': WHATEVER THE INPUT: true; the input reads as it did. -/
def bvBackSpec : ChangeSpec := { name := "bvBack", fn := fun _ => fun
  | [d1, d2] => { results := [.lit (.bool true)], args := [d1, d2] }
  | _ => none }
def bvBackRow : OpenClaim := { program := "ytflnpcgnenhogaadoor", sum := "4f8eceb7d1fa62351f19d92a55b6cd5c782f5abdec8e94974baaed17b62e529c", func := "wattle/wattlelaw14.BvBack", spec := "bvBack", unfollowed := true, recurses := true, named := ["wattle/list.gamma", "wattle/list.unary"], apart := false, laid := [("wattle/list.gamma", laid_wattle_list_gamma), ("wattle/list.unary", laid_wattle_list_unary)] }
def BvBackSaid : Prop := bvBackRow.holds Tryd.pinned (OpenSpec.ofChange bvBackSpec)

/-- ITS FALSE NEIGHBOUR: 'it returns false'. Refute it at one input. -/
def bvBackWrong : ChangeSpec := { name := "bvBack", fn := fun _ => fun
  | [d1, d2] => { results := [.lit (.bool false)], args := [d1, d2] }
  | _ => none }
def BvBackWrongFalsely : Prop := bvBackRow.holds Tryd.pinned (OpenSpec.ofChange bvBackWrong)

/- THE SECOND FORM. 'bulk': how many values and letters a reading holds, each counted each time it is reached (what is shared counts as often as it is met; a slice's spare places count too). A statement '..UptoSaid' is the law's where the arguments, and the package variables that the reading takes, are together of bulk at most 1048576: NARROWER than '..Said'. Prove '..Said' where nothing that the law and all that it calls make is longer than what came in: it says more and counts as full. Else prove '..UptoSaid'. A law counts once. -/
mutual
def uptoBulk {H : Type} : DataW H → Nat
  | .lit (.string bytes) => bytes.length + 1
  | .lit _ => 1
  | .nil => 1
  | .ptr d => uptoBulk d + 1
  | .slice elems spare => uptoBulkAll elems + uptoBulkAll spare + 1
  | .agg parts => uptoBulkAll parts + 1
  | .iface _ d => uptoBulk d + 1
  | .map entries => uptoBulkEntries entries + 1
  | .held _ => 1
def uptoBulkAll {H : Type} : List (DataW H) → Nat
  | [] => 0
  | d :: r => uptoBulk d + uptoBulkAll r
def uptoBulkEntries {H : Type} : List (Lit × DataW H) → Nat
  | [] => 0
  | x :: r => uptoBulkEntry x + uptoBulkEntries r
def uptoBulkEntry {H : Type} : Lit × DataW H → Nat
  | (.string bytes, d) => bytes.length + uptoBulk d + 1
  | (_, d) => uptoBulk d + 1
 end
def uptoSmall : (H : Type) → List (DataW H) → Bool := fun _ ds => decide (uptoBulkAll ds ≤ 1048576)
def OpenSpec.upto (s : _root_.Go.ChangeSpec) : _root_.Go.OpenSpec := { _root_.Go.OpenSpec.ofChange s with cond := some uptoSmall }

/-- 'wattlelaw13.ListEncodes', WHERE WHAT IT READS IS OF BULK AT MOST 1048576: true; the input reads as it did. -/
def listEncodesUptoRow : OpenClaim := { program := "ytflnpcgnenhogaadoor", sum := "4f8eceb7d1fa62351f19d92a55b6cd5c782f5abdec8e94974baaed17b62e529c", func := "wattle/wattlelaw13.ListEncodes", spec := "listEncodes", unfollowed := true, recurses := true, named := ["wattle/list.gamma", "wattle/list.unary"], apart := false, laid := [("wattle/list.gamma", laid_wattle_list_gamma), ("wattle/list.unary", laid_wattle_list_unary)], narrowed := true }
def ListEncodesUptoSaid : Prop := listEncodesUptoRow.holds Tryd.pinned (OpenSpec.upto listEncodesSpec)

/-- 'wattlelaw13.ListBack', WHERE WHAT IT READS IS OF BULK AT MOST 1048576: true; the input reads as it did. -/
def listBackUptoRow : OpenClaim := { program := "ytflnpcgnenhogaadoor", sum := "4f8eceb7d1fa62351f19d92a55b6cd5c782f5abdec8e94974baaed17b62e529c", func := "wattle/wattlelaw13.ListBack", spec := "listBack", unfollowed := true, recurses := true, named := ["wattle/list.gamma", "wattle/list.unary"], apart := false, laid := [("wattle/list.gamma", laid_wattle_list_gamma), ("wattle/list.unary", laid_wattle_list_unary)], narrowed := true }
def ListBackUptoSaid : Prop := listBackUptoRow.holds Tryd.pinned (OpenSpec.upto listBackSpec)

/-- 'wattlelaw13.ListFew', WHERE WHAT IT READS IS OF BULK AT MOST 1048576: true; the input reads as it did. -/
def listFewUptoRow : OpenClaim := { program := "ytflnpcgnenhogaadoor", sum := "4f8eceb7d1fa62351f19d92a55b6cd5c782f5abdec8e94974baaed17b62e529c", func := "wattle/wattlelaw13.ListFew", spec := "listFew", unfollowed := true, recurses := true, named := ["wattle/list.gamma", "wattle/list.unary"], apart := false, laid := [("wattle/list.gamma", laid_wattle_list_gamma), ("wattle/list.unary", laid_wattle_list_unary)], narrowed := true }
def ListFewUptoSaid : Prop := listFewUptoRow.holds Tryd.pinned (OpenSpec.upto listFewSpec)

/-- 'wattlelaw14.BvBack', WHERE WHAT IT READS IS OF BULK AT MOST 1048576: true; the input reads as it did. -/
def bvBackUptoRow : OpenClaim := { program := "ytflnpcgnenhogaadoor", sum := "4f8eceb7d1fa62351f19d92a55b6cd5c782f5abdec8e94974baaed17b62e529c", func := "wattle/wattlelaw14.BvBack", spec := "bvBack", unfollowed := true, recurses := true, named := ["wattle/list.gamma", "wattle/list.unary"], apart := false, laid := [("wattle/list.gamma", laid_wattle_list_gamma), ("wattle/list.unary", laid_wattle_list_unary)], narrowed := true }
def BvBackUptoSaid : Prop := bvBackUptoRow.holds Tryd.pinned (OpenSpec.upto bvBackSpec)

end Rows
end Go.Proofs.YtflnpcgnenhogaaDoor
