/-
  DERIVED. GIVEN WITH THE SEED: THE CARDS: each row of YtflnpcgnenhogaaDoorRows.lean that lists a variable, with what it lists TIED to the program's text (the seventh form; the later family's looks); each row that meets fmt, with fmt's text TOLD by the authors' own Lean function (tested against real Go, not proved from fmt's source: count such statements apart). THE CARD IS WHAT COUNTS. Prove the row's statement (the work); the ties are given (YtflnpcgnenhogaaDoorTie.lean); close each card by the builder's one call (the guide's Derived/Test/ToyasCard.lean, 'card_holds'). Laid BY PROGRAM, IN A SANDBOX (cutbox-door.mjs). By AI agents, Wed Nov 11 2026. No macro, syntax, notation, axiom, sorry.
-/
import Derived.Test.YtflnpcgnenhogaaDoorRows
import GoSem.ClaimSeven
namespace Go.Proofs.YtflnpcgnenhogaaDoor
namespace Rows

/-- THE TIED CARD OF 'wattlelaw13.ListEncodes'. -/
def listEncodesCard : Claim7 := { stood := { row := listEncodesRow, standIns := [], harness := (true, "a59eea51c842cca414c73fbd319beaab614bc190fa760797149a9f914ee7d236"), looks := false }, kinds := [], alts := [], laidByText := true, laidKinds := [.data, .data], laidTests := true, laidLooks := .later }
def ListEncodesCardSaid : Prop := Claim7.holds Tryd.pinned (.plain (OpenSpec.ofChange listEncodesSpec)) listEncodesCard

/-- THE TIED CARD OF 'wattlelaw13.ListBack'. -/
def listBackCard : Claim7 := { stood := { row := listBackRow, standIns := [], harness := (true, "a59eea51c842cca414c73fbd319beaab614bc190fa760797149a9f914ee7d236"), looks := false }, kinds := [], alts := [], laidByText := true, laidKinds := [.data, .data], laidTests := true, laidLooks := .later }
def ListBackCardSaid : Prop := Claim7.holds Tryd.pinned (.plain (OpenSpec.ofChange listBackSpec)) listBackCard

/-- THE TIED CARD OF 'wattlelaw13.ListFew'. -/
def listFewCard : Claim7 := { stood := { row := listFewRow, standIns := [], harness := (true, "a59eea51c842cca414c73fbd319beaab614bc190fa760797149a9f914ee7d236"), looks := false }, kinds := [], alts := [], laidByText := true, laidKinds := [.data, .data], laidTests := true, laidLooks := .later }
def ListFewCardSaid : Prop := Claim7.holds Tryd.pinned (.plain (OpenSpec.ofChange listFewSpec)) listFewCard

/-- THE TIED CARD OF 'wattlelaw14.BvBack'. -/
def bvBackCard : Claim7 := { stood := { row := bvBackRow, standIns := [], harness := (true, "a59eea51c842cca414c73fbd319beaab614bc190fa760797149a9f914ee7d236"), looks := false }, kinds := [], alts := [], laidByText := true, laidKinds := [.data, .data], laidTests := true, laidLooks := .later }
def BvBackCardSaid : Prop := Claim7.holds Tryd.pinned (.plain (OpenSpec.ofChange bvBackSpec)) bvBackCard

/-- THE SECOND FORM's CARD OF 'wattlelaw13.ListEncodes'. -/
def listEncodesUptoCard : Claim7 := { stood := { row := listEncodesUptoRow, standIns := [], harness := (true, "a59eea51c842cca414c73fbd319beaab614bc190fa760797149a9f914ee7d236"), looks := false }, kinds := [], alts := [], laidByText := true, laidKinds := [.data, .data], laidTests := true, laidLooks := .later }
def ListEncodesUptoCardSaid : Prop := Claim7.holds Tryd.pinned (.plain (OpenSpec.upto listEncodesSpec)) listEncodesUptoCard

/-- THE SECOND FORM's CARD OF 'wattlelaw13.ListBack'. -/
def listBackUptoCard : Claim7 := { stood := { row := listBackUptoRow, standIns := [], harness := (true, "a59eea51c842cca414c73fbd319beaab614bc190fa760797149a9f914ee7d236"), looks := false }, kinds := [], alts := [], laidByText := true, laidKinds := [.data, .data], laidTests := true, laidLooks := .later }
def ListBackUptoCardSaid : Prop := Claim7.holds Tryd.pinned (.plain (OpenSpec.upto listBackSpec)) listBackUptoCard

/-- THE SECOND FORM's CARD OF 'wattlelaw13.ListFew'. -/
def listFewUptoCard : Claim7 := { stood := { row := listFewUptoRow, standIns := [], harness := (true, "a59eea51c842cca414c73fbd319beaab614bc190fa760797149a9f914ee7d236"), looks := false }, kinds := [], alts := [], laidByText := true, laidKinds := [.data, .data], laidTests := true, laidLooks := .later }
def ListFewUptoCardSaid : Prop := Claim7.holds Tryd.pinned (.plain (OpenSpec.upto listFewSpec)) listFewUptoCard

/-- THE SECOND FORM's CARD OF 'wattlelaw14.BvBack'. -/
def bvBackUptoCard : Claim7 := { stood := { row := bvBackUptoRow, standIns := [], harness := (true, "a59eea51c842cca414c73fbd319beaab614bc190fa760797149a9f914ee7d236"), looks := false }, kinds := [], alts := [], laidByText := true, laidKinds := [.data, .data], laidTests := true, laidLooks := .later }
def BvBackUptoCardSaid : Prop := Claim7.holds Tryd.pinned (.plain (OpenSpec.upto bvBackSpec)) bvBackUptoCard
end Rows
end Go.Proofs.YtflnpcgnenhogaaDoor
