/-
  DERIVED. GIVEN WITH THE SEED: THE CARDS: each row of YtdnfliffpnhnfaaGreatDoorRows.lean that lists a variable, with what it lists TIED to the program's text (the seventh form; the later family's looks); each row that meets fmt, with fmt's text TOLD by the authors' own Lean function (tested against real Go, not proved from fmt's source: count such statements apart). THE CARD IS WHAT COUNTS. Prove the row's statement (the work); the ties are given (YtdnfliffpnhnfaaGreatDoorTie.lean); close each card by the builder's one call (the guide's Derived/Test/ToyasCard.lean, 'card_holds'). Laid BY PROGRAM, IN A SANDBOX (cutbox-door.mjs). By AI agents, Wed Nov 11 2026. No macro, syntax, notation, axiom, sorry.
-/
import Derived.Test.YtdnfliffpnhnfaaGreatDoorRows
import GoSem.ClaimSeven
namespace Go.Proofs.YtdnfliffpnhnfaaGreatDoor
namespace Rows

/-- THE TIED CARD OF 'wattlelaw15.PackNone'. -/
def packNoneCard : Claim7 := { stood := { row := packNoneRow, standIns := [], harness := (true, "5d271eaa3dd5100e33552231ea2425d070709803beaeaf1a6f11a08e0d33e2c0"), looks := false }, kinds := [], alts := [], laidByText := true, laidKinds := [.data, .data], laidTests := true, laidLooks := .later }
def PackNoneCardSaid : Prop := Claim7.holds Tryz.pinned (.plain (OpenSpec.ofChange packNoneSpec)) packNoneCard

/-- THE TIED CARD OF 'wattlelaw16.WalkNone'. -/
def walkNoneCard : Claim7 := { stood := { row := walkNoneRow, standIns := [], harness := (true, "5d271eaa3dd5100e33552231ea2425d070709803beaeaf1a6f11a08e0d33e2c0"), looks := false }, kinds := [], alts := [], laidByText := true, laidKinds := [.data, .data], laidTests := true, laidLooks := .later }
def WalkNoneCardSaid : Prop := Claim7.holds Tryz.pinned (.plain (OpenSpec.ofChange walkNoneSpec)) walkNoneCard

/-- THE SECOND FORM's CARD OF 'wattlelaw15.PackNone'. -/
def packNoneUptoCard : Claim7 := { stood := { row := packNoneUptoRow, standIns := [], harness := (true, "5d271eaa3dd5100e33552231ea2425d070709803beaeaf1a6f11a08e0d33e2c0"), looks := false }, kinds := [], alts := [], laidByText := true, laidKinds := [.data, .data], laidTests := true, laidLooks := .later }
def PackNoneUptoCardSaid : Prop := Claim7.holds Tryz.pinned (.plain (OpenSpec.upto packNoneSpec)) packNoneUptoCard

/-- THE SECOND FORM's CARD OF 'wattlelaw16.WalkNone'. -/
def walkNoneUptoCard : Claim7 := { stood := { row := walkNoneUptoRow, standIns := [], harness := (true, "5d271eaa3dd5100e33552231ea2425d070709803beaeaf1a6f11a08e0d33e2c0"), looks := false }, kinds := [], alts := [], laidByText := true, laidKinds := [.data, .data], laidTests := true, laidLooks := .later }
def WalkNoneUptoCardSaid : Prop := Claim7.holds Tryz.pinned (.plain (OpenSpec.upto walkNoneSpec)) walkNoneUptoCard
end Rows
end Go.Proofs.YtdnfliffpnhnfaaGreatDoor
