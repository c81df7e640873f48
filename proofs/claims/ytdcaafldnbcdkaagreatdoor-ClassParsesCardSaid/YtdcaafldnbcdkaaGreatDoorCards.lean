/-
  DERIVED. GIVEN WITH THE SEED: THE CARDS: each row of YtdcaafldnbcdkaaGreatDoorRows.lean that lists a variable, with what it lists TIED to the program's text (the seventh form; the later family's looks); each row that meets fmt, with fmt's text TOLD by the authors' own Lean function (tested against real Go, not proved from fmt's source: count such statements apart). THE CARD IS WHAT COUNTS. Prove the row's statement (the work); the ties are given (YtdcaafldnbcdkaaGreatDoorTie.lean); close each card by the builder's one call (the guide's Derived/Test/ToyasCard.lean, 'card_holds'). Laid BY PROGRAM, IN A SANDBOX (cutbox-door.mjs). By AI agents, Wed Nov 11 2026. No macro, syntax, notation, axiom, sorry.
-/
import Derived.Test.YtdcaafldnbcdkaaGreatDoorRows
import GoSem.ClaimSeven
namespace Go.Proofs.YtdcaafldnbcdkaaGreatDoor
namespace Rows

/-- THE TIED CARD OF 'larchlaw08.ClassParses'. -/
def classParsesCard : Claim7 := { stood := { row := classParsesRow, standIns := [], harness := (true, "1cab907ce15387dc861120e1786a75818dad24384c5e6119179e0733e563cded"), looks := false }, kinds := [], alts := [], laidByText := true, laidKinds := [.widerDeep], laidTests := true, laidLooks := .later }
def ClassParsesCardSaid : Prop := Claim7.holds Tryz.pinned (.plain (OpenSpec.ofChange classParsesSpec)) classParsesCard

/-- THE SECOND FORM's CARD OF 'larchlaw08.ClassParses'. -/
def classParsesUptoCard : Claim7 := { stood := { row := classParsesUptoRow, standIns := [], harness := (true, "1cab907ce15387dc861120e1786a75818dad24384c5e6119179e0733e563cded"), looks := false }, kinds := [], alts := [], laidByText := true, laidKinds := [.widerDeep], laidTests := true, laidLooks := .later }
def ClassParsesUptoCardSaid : Prop := Claim7.holds Tryz.pinned (.plain (OpenSpec.upto classParsesSpec)) classParsesUptoCard
end Rows
end Go.Proofs.YtdcaafldnbcdkaaGreatDoor
