/-
  DERIVED. GIVEN WITH THE SEED: THE CARDS: each row of YthaicpbdlhkkkaaGreatDoorRows.lean that lists a variable, with what it lists TIED to the program's text (the seventh form; the later family's looks); each row that meets fmt, with fmt's text TOLD by the authors' own Lean function (tested against real Go, not proved from fmt's source: count such statements apart). THE CARD IS WHAT COUNTS. Prove the row's statement (the work); the ties are given (YthaicpbdlhkkkaaGreatDoorTie.lean); close each card by the builder's one call (the guide's Derived/Test/ToyasCard.lean, 'card_holds'). Laid BY PROGRAM, IN A SANDBOX (cutbox-door.mjs). By AI agents, Wed Nov 11 2026. No macro, syntax, notation, axiom, sorry.
-/
import Derived.Test.YthaicpbdlhkkkaaGreatDoorRows
import GoSem.ClaimSeven
namespace Go.Proofs.YthaicpbdlhkkkaaGreatDoor
namespace Rows

/-- THE TIED CARD OF 'wattlelaw15.PackHeads'. -/
def packHeadsCard : Claim7 := { stood := { row := packHeadsRow, standIns := [], harness := (true, "4b2ef9b3b0a0f3247c2fb5cca74758291464de61e7f3234bca5aed93582631f5"), looks := false }, kinds := [], alts := [], laidByText := true, laidKinds := [.data, .data], laidTests := true, laidLooks := .later }
def PackHeadsCardSaid : Prop := Claim7.holds Tryz.pinned (.plain (OpenSpec.ofChange packHeadsSpec)) packHeadsCard

/-- THE SECOND FORM's CARD OF 'wattlelaw15.PackHeads'. -/
def packHeadsUptoCard : Claim7 := { stood := { row := packHeadsUptoRow, standIns := [], harness := (true, "4b2ef9b3b0a0f3247c2fb5cca74758291464de61e7f3234bca5aed93582631f5"), looks := false }, kinds := [], alts := [], laidByText := true, laidKinds := [.data, .data], laidTests := true, laidLooks := .later }
def PackHeadsUptoCardSaid : Prop := Claim7.holds Tryz.pinned (.plain (OpenSpec.upto packHeadsSpec)) packHeadsUptoCard
end Rows
end Go.Proofs.YthaicpbdlhkkkaaGreatDoor
