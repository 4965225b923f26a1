/-
  DERIVED. GIVEN WITH THE SEED: THE CARDS: each row of YthcdfdkhmlkneaaDoorRows.lean that lists a variable, with what it lists TIED to the program's text (the seventh form; the later family's looks); each row that meets fmt, with fmt's text TOLD by the authors' own Lean function (tested against real Go, not proved from fmt's source: count such statements apart). THE CARD IS WHAT COUNTS. Prove the row's statement (the work); the ties are given (YthcdfdkhmlkneaaDoorTie.lean); close each card by the builder's one call (the guide's Derived/Test/ToyasCard.lean, 'card_holds'). Laid BY PROGRAM, IN A SANDBOX (cutbox-door.mjs). By AI agents, Wed Nov 11 2026. No macro, syntax, notation, axiom, sorry.
-/
import Derived.Test.YthcdfdkhmlkneaaDoorRows
import GoSem.ClaimSeven
namespace Go.Proofs.YthcdfdkhmlkneaaDoor
namespace Rows

/-- THE TIED CARD OF 'wattlelaw09.ArcFits'. -/
def arcFitsCard : Claim7 := { stood := { row := arcFitsRow, standIns := [], harness := (true, "8fedb2cf8fcc391acf5283dd332037fcf7b15c7d7104fd8020de77686081b9c9"), looks := false }, kinds := [], alts := [], laidByText := true, laidKinds := [.data, .data, .data], laidTests := true, laidLooks := .later }
def ArcFitsCardSaid : Prop := Claim7.holds Tryd.pinned (.plain (OpenSpec.ofChange arcFitsSpec)) arcFitsCard

/-- THE TIED CARD OF 'wattlelaw09.ArcNamed'. -/
def arcNamedCard : Claim7 := { stood := { row := arcNamedRow, standIns := [], harness := (true, "8fedb2cf8fcc391acf5283dd332037fcf7b15c7d7104fd8020de77686081b9c9"), looks := false }, kinds := [], alts := [], laidByText := true, laidKinds := [.data, .data, .data], laidTests := true, laidLooks := .later }
def ArcNamedCardSaid : Prop := Claim7.holds Tryd.pinned (.plain (OpenSpec.ofChange arcNamedSpec)) arcNamedCard

/-- THE SECOND FORM's CARD OF 'wattlelaw09.ArcFits'. -/
def arcFitsUptoCard : Claim7 := { stood := { row := arcFitsUptoRow, standIns := [], harness := (true, "8fedb2cf8fcc391acf5283dd332037fcf7b15c7d7104fd8020de77686081b9c9"), looks := false }, kinds := [], alts := [], laidByText := true, laidKinds := [.data, .data, .data], laidTests := true, laidLooks := .later }
def ArcFitsUptoCardSaid : Prop := Claim7.holds Tryd.pinned (.plain (OpenSpec.upto arcFitsSpec)) arcFitsUptoCard

/-- THE SECOND FORM's CARD OF 'wattlelaw09.ArcNamed'. -/
def arcNamedUptoCard : Claim7 := { stood := { row := arcNamedUptoRow, standIns := [], harness := (true, "8fedb2cf8fcc391acf5283dd332037fcf7b15c7d7104fd8020de77686081b9c9"), looks := false }, kinds := [], alts := [], laidByText := true, laidKinds := [.data, .data, .data], laidTests := true, laidLooks := .later }
def ArcNamedUptoCardSaid : Prop := Claim7.holds Tryd.pinned (.plain (OpenSpec.upto arcNamedSpec)) arcNamedUptoCard
end Rows
end Go.Proofs.YthcdfdkhmlkneaaDoor
