/-
  DERIVED. GIVEN WITH THE SEED: THE CARDS: each row of YtpcggglhnjeilaaGreatDoorRows.lean that lists a variable, with what it lists TIED to the program's text (the seventh form; the later family's looks); each row that meets fmt, with fmt's text TOLD by the authors' own Lean function (tested against real Go, not proved from fmt's source: count such statements apart). THE CARD IS WHAT COUNTS. Prove the row's statement (the work); the ties are given (YtpcggglhnjeilaaGreatDoorTie.lean); close each card by the builder's one call (the guide's Derived/Test/ToyasCard.lean, 'card_holds'). Laid BY PROGRAM, IN A SANDBOX (cutbox-door.mjs). By AI agents, Wed Nov 11 2026. No macro, syntax, notation, axiom, sorry.
-/
import Derived.Test.YtpcggglhnjeilaaGreatDoorRows
import GoSem.ClaimSeven
namespace Go.Proofs.YtpcggglhnjeilaaGreatDoor
namespace Rows

/-- THE TIED CARD OF 'wattlelaw19.IngestNone'. -/
def ingestNoneCard : Claim7 := { stood := { row := ingestNoneRow, standIns := [], harness := (true, "934414beb65acb63c9754fe0e8f38b59598bc81191f528030c065b3bb724cc8e"), looks := false }, kinds := [], alts := [], laidByText := true, laidKinds := [.data, .data], laidTests := true, laidLooks := .later }
def IngestNoneCardSaid : Prop := Claim7.holds Tryz.pinned (.plain (OpenSpec.ofChange ingestNoneSpec)) ingestNoneCard

/-- THE TIED CARD OF 'wattlelaw26.TriNone'. -/
def triNoneCard : Claim7 := { stood := { row := triNoneRow, standIns := [], harness := (true, "934414beb65acb63c9754fe0e8f38b59598bc81191f528030c065b3bb724cc8e"), looks := false }, kinds := [], alts := [], laidByText := true, laidKinds := [.data, .data], laidTests := true, laidLooks := .later }
def TriNoneCardSaid : Prop := Claim7.holds Tryz.pinned (.plain (OpenSpec.ofChange triNoneSpec)) triNoneCard

/-- THE TIED CARD OF 'wattlelaw20.TurnNone'. -/
def turnNoneCard : Claim7 := { stood := { row := turnNoneRow, standIns := [], harness := (true, "934414beb65acb63c9754fe0e8f38b59598bc81191f528030c065b3bb724cc8e"), looks := false }, kinds := [], alts := [], laidByText := true, laidKinds := [.data, .data], laidTests := true, laidLooks := .later }
def TurnNoneCardSaid : Prop := Claim7.holds Tryz.pinned (.plain (OpenSpec.ofChange turnNoneSpec)) turnNoneCard

/-- THE SECOND FORM's CARD OF 'wattlelaw19.IngestNone'. -/
def ingestNoneUptoCard : Claim7 := { stood := { row := ingestNoneUptoRow, standIns := [], harness := (true, "934414beb65acb63c9754fe0e8f38b59598bc81191f528030c065b3bb724cc8e"), looks := false }, kinds := [], alts := [], laidByText := true, laidKinds := [.data, .data], laidTests := true, laidLooks := .later }
def IngestNoneUptoCardSaid : Prop := Claim7.holds Tryz.pinned (.plain (OpenSpec.upto ingestNoneSpec)) ingestNoneUptoCard

/-- THE SECOND FORM's CARD OF 'wattlelaw26.TriNone'. -/
def triNoneUptoCard : Claim7 := { stood := { row := triNoneUptoRow, standIns := [], harness := (true, "934414beb65acb63c9754fe0e8f38b59598bc81191f528030c065b3bb724cc8e"), looks := false }, kinds := [], alts := [], laidByText := true, laidKinds := [.data, .data], laidTests := true, laidLooks := .later }
def TriNoneUptoCardSaid : Prop := Claim7.holds Tryz.pinned (.plain (OpenSpec.upto triNoneSpec)) triNoneUptoCard

/-- THE SECOND FORM's CARD OF 'wattlelaw20.TurnNone'. -/
def turnNoneUptoCard : Claim7 := { stood := { row := turnNoneUptoRow, standIns := [], harness := (true, "934414beb65acb63c9754fe0e8f38b59598bc81191f528030c065b3bb724cc8e"), looks := false }, kinds := [], alts := [], laidByText := true, laidKinds := [.data, .data], laidTests := true, laidLooks := .later }
def TurnNoneUptoCardSaid : Prop := Claim7.holds Tryz.pinned (.plain (OpenSpec.upto turnNoneSpec)) turnNoneUptoCard
end Rows
end Go.Proofs.YtpcggglhnjeilaaGreatDoor
