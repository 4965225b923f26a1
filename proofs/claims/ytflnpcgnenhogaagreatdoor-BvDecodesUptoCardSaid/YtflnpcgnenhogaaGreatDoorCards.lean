/-
  DERIVED. GIVEN WITH THE SEED: THE CARDS: each row of YtflnpcgnenhogaaGreatDoorRows.lean that lists a variable, with what it lists TIED to the program's text (the seventh form; the later family's looks); each row that meets fmt, with fmt's text TOLD by the authors' own Lean function (tested against real Go, not proved from fmt's source: count such statements apart). THE CARD IS WHAT COUNTS. Prove the row's statement (the work); the ties are given (YtflnpcgnenhogaaGreatDoorTie.lean); close each card by the builder's one call (the guide's Derived/Test/ToyasCard.lean, 'card_holds'). Laid BY PROGRAM, IN A SANDBOX (cutbox-door.mjs). By AI agents, Wed Nov 11 2026. No macro, syntax, notation, axiom, sorry.
-/
import Derived.Test.YtflnpcgnenhogaaGreatDoorRows
import GoSem.ClaimSeven
namespace Go.Proofs.YtflnpcgnenhogaaGreatDoor
namespace Rows

/-- THE TIED CARD OF 'wattlelaw13.ListDecodes'. -/
def listDecodesCard : Claim7 := { stood := { row := listDecodesRow, standIns := [], harness := (true, "91667f94c95627bc3ab58e22a5293258d04294d334665cf9852ee0dfbaf13882"), looks := false }, kinds := [], alts := [], laidByText := true, laidKinds := [.data, .data], laidTests := true, laidLooks := .later }
def ListDecodesCardSaid : Prop := Claim7.holds Tryz.pinned (.plain (OpenSpec.ofChange listDecodesSpec)) listDecodesCard

/-- THE TIED CARD OF 'wattlelaw14.BvEncodes'. -/
def bvEncodesCard : Claim7 := { stood := { row := bvEncodesRow, standIns := [], harness := (true, "91667f94c95627bc3ab58e22a5293258d04294d334665cf9852ee0dfbaf13882"), looks := false }, kinds := [], alts := [], laidByText := true, laidKinds := [.data, .data], laidTests := true, laidLooks := .later }
def BvEncodesCardSaid : Prop := Claim7.holds Tryz.pinned (.plain (OpenSpec.ofChange bvEncodesSpec)) bvEncodesCard

/-- THE TIED CARD OF 'wattlelaw14.BvDecodes'. -/
def bvDecodesCard : Claim7 := { stood := { row := bvDecodesRow, standIns := [], harness := (true, "91667f94c95627bc3ab58e22a5293258d04294d334665cf9852ee0dfbaf13882"), looks := false }, kinds := [], alts := [], laidByText := true, laidKinds := [.data, .data], laidTests := true, laidLooks := .later }
def BvDecodesCardSaid : Prop := Claim7.holds Tryz.pinned (.plain (OpenSpec.ofChange bvDecodesSpec)) bvDecodesCard

/-- THE TIED CARD OF 'wattlelaw14.BvPacks'. -/
def bvPacksCard : Claim7 := { stood := { row := bvPacksRow, standIns := [], harness := (true, "91667f94c95627bc3ab58e22a5293258d04294d334665cf9852ee0dfbaf13882"), looks := false }, kinds := [], alts := [], laidByText := true, laidKinds := [.data, .data], laidTests := true, laidLooks := .later }
def BvPacksCardSaid : Prop := Claim7.holds Tryz.pinned (.plain (OpenSpec.ofChange bvPacksSpec)) bvPacksCard

/-- THE SECOND FORM's CARD OF 'wattlelaw13.ListDecodes'. -/
def listDecodesUptoCard : Claim7 := { stood := { row := listDecodesUptoRow, standIns := [], harness := (true, "91667f94c95627bc3ab58e22a5293258d04294d334665cf9852ee0dfbaf13882"), looks := false }, kinds := [], alts := [], laidByText := true, laidKinds := [.data, .data], laidTests := true, laidLooks := .later }
def ListDecodesUptoCardSaid : Prop := Claim7.holds Tryz.pinned (.plain (OpenSpec.upto listDecodesSpec)) listDecodesUptoCard

/-- THE SECOND FORM's CARD OF 'wattlelaw14.BvEncodes'. -/
def bvEncodesUptoCard : Claim7 := { stood := { row := bvEncodesUptoRow, standIns := [], harness := (true, "91667f94c95627bc3ab58e22a5293258d04294d334665cf9852ee0dfbaf13882"), looks := false }, kinds := [], alts := [], laidByText := true, laidKinds := [.data, .data], laidTests := true, laidLooks := .later }
def BvEncodesUptoCardSaid : Prop := Claim7.holds Tryz.pinned (.plain (OpenSpec.upto bvEncodesSpec)) bvEncodesUptoCard

/-- THE SECOND FORM's CARD OF 'wattlelaw14.BvDecodes'. -/
def bvDecodesUptoCard : Claim7 := { stood := { row := bvDecodesUptoRow, standIns := [], harness := (true, "91667f94c95627bc3ab58e22a5293258d04294d334665cf9852ee0dfbaf13882"), looks := false }, kinds := [], alts := [], laidByText := true, laidKinds := [.data, .data], laidTests := true, laidLooks := .later }
def BvDecodesUptoCardSaid : Prop := Claim7.holds Tryz.pinned (.plain (OpenSpec.upto bvDecodesSpec)) bvDecodesUptoCard

/-- THE SECOND FORM's CARD OF 'wattlelaw14.BvPacks'. -/
def bvPacksUptoCard : Claim7 := { stood := { row := bvPacksUptoRow, standIns := [], harness := (true, "91667f94c95627bc3ab58e22a5293258d04294d334665cf9852ee0dfbaf13882"), looks := false }, kinds := [], alts := [], laidByText := true, laidKinds := [.data, .data], laidTests := true, laidLooks := .later }
def BvPacksUptoCardSaid : Prop := Claim7.holds Tryz.pinned (.plain (OpenSpec.upto bvPacksSpec)) bvPacksUptoCard
end Rows
end Go.Proofs.YtflnpcgnenhogaaGreatDoor
