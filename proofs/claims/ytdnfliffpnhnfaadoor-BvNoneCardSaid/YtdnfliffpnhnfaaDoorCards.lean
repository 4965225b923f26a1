/-
  DERIVED. GIVEN WITH THE SEED: THE CARDS: each row of YtdnfliffpnhnfaaDoorRows.lean that lists a variable, with what it lists TIED to the program's text (the seventh form; the later family's looks); each row that meets fmt, with fmt's text TOLD by the authors' own Lean function (tested against real Go, not proved from fmt's source: count such statements apart). THE CARD IS WHAT COUNTS. Prove the row's statement (the work); the ties are given (YtdnfliffpnhnfaaDoorTie.lean); close each card by the builder's one call (the guide's Derived/Test/ToyasCard.lean, 'card_holds'). Laid BY PROGRAM, IN A SANDBOX (cutbox-door.mjs). By AI agents, Wed Nov 11 2026. No macro, syntax, notation, axiom, sorry.
-/
import Derived.Test.YtdnfliffpnhnfaaDoorRows
import GoSem.ClaimSeven
namespace Go.Proofs.YtdnfliffpnhnfaaDoor
namespace Rows

/-- THE TIED CARD OF 'wattlelaw13.ListNone'. -/
def listNoneCard : Claim7 := { stood := { row := listNoneRow, standIns := [], harness := (true, "ab4574b0adfe600ac81779d3b046e8e7219cc9a71838b9df1830f417ea5e9a31"), looks := false }, kinds := [], alts := [], laidByText := true, laidKinds := [.data, .data], laidTests := true, laidLooks := .later }
def ListNoneCardSaid : Prop := Claim7.holds Tryd.pinned (.plain (OpenSpec.ofChange listNoneSpec)) listNoneCard

/-- THE TIED CARD OF 'wattlelaw14.BvNone'. -/
def bvNoneCard : Claim7 := { stood := { row := bvNoneRow, standIns := [], harness := (true, "ab4574b0adfe600ac81779d3b046e8e7219cc9a71838b9df1830f417ea5e9a31"), looks := false }, kinds := [], alts := [], laidByText := true, laidKinds := [.data, .data], laidTests := true, laidLooks := .later }
def BvNoneCardSaid : Prop := Claim7.holds Tryd.pinned (.plain (OpenSpec.ofChange bvNoneSpec)) bvNoneCard

/-- THE SECOND FORM's CARD OF 'wattlelaw13.ListNone'. -/
def listNoneUptoCard : Claim7 := { stood := { row := listNoneUptoRow, standIns := [], harness := (true, "ab4574b0adfe600ac81779d3b046e8e7219cc9a71838b9df1830f417ea5e9a31"), looks := false }, kinds := [], alts := [], laidByText := true, laidKinds := [.data, .data], laidTests := true, laidLooks := .later }
def ListNoneUptoCardSaid : Prop := Claim7.holds Tryd.pinned (.plain (OpenSpec.upto listNoneSpec)) listNoneUptoCard

/-- THE SECOND FORM's CARD OF 'wattlelaw14.BvNone'. -/
def bvNoneUptoCard : Claim7 := { stood := { row := bvNoneUptoRow, standIns := [], harness := (true, "ab4574b0adfe600ac81779d3b046e8e7219cc9a71838b9df1830f417ea5e9a31"), looks := false }, kinds := [], alts := [], laidByText := true, laidKinds := [.data, .data], laidTests := true, laidLooks := .later }
def BvNoneUptoCardSaid : Prop := Claim7.holds Tryd.pinned (.plain (OpenSpec.upto bvNoneSpec)) bvNoneUptoCard
end Rows
end Go.Proofs.YtdnfliffpnhnfaaDoor
