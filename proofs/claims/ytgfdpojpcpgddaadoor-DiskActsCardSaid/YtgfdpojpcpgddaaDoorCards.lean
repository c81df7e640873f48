/-
  DERIVED. GIVEN WITH THE SEED: THE CARDS: each row of YtgfdpojpcpgddaaDoorRows.lean that lists a variable, with what it lists TIED to the program's text (the seventh form; the later family's looks); each row that meets fmt, with fmt's text TOLD by the authors' own Lean function (tested against real Go, not proved from fmt's source: count such statements apart). THE CARD IS WHAT COUNTS. Prove the row's statement (the work); the ties are given (YtgfdpojpcpgddaaDoorTie.lean); close each card by the builder's one call (the guide's Derived/Test/ToyasCard.lean, 'card_holds'). Laid BY PROGRAM, IN A SANDBOX (cutbox-door.mjs). By AI agents, Wed Nov 11 2026. No macro, syntax, notation, axiom, sorry.
-/
import Derived.Test.YtgfdpojpcpgddaaDoorRows
import GoSem.ClaimSeven
namespace Go.Proofs.YtgfdpojpcpgddaaDoor
namespace Rows

/-- THE TIED CARD OF 'larchlaw01.DiskLoads'. -/
def diskLoadsCard : Claim7 := { stood := { row := diskLoadsRow, standIns := [], harness := (true, "9830ea45d55c99e470eaa9cc2c4b8a3aabfbd5fae7cde904e2e77eb8c02eee8f"), looks := false }, kinds := [], alts := [], laidByText := true, laidKinds := [.sentinel], laidTests := true, laidLooks := .later }
def DiskLoadsCardSaid : Prop := Claim7.holds Tryd.pinned (.plain (OpenSpec.ofChange diskLoadsSpec)) diskLoadsCard

/-- THE TIED CARD OF 'larchlaw01.DiskSure'. -/
def diskSureCard : Claim7 := { stood := { row := diskSureRow, standIns := [], harness := (true, "9830ea45d55c99e470eaa9cc2c4b8a3aabfbd5fae7cde904e2e77eb8c02eee8f"), looks := false }, kinds := [], alts := [], laidByText := true, laidKinds := [.sentinel], laidTests := true, laidLooks := .later }
def DiskSureCardSaid : Prop := Claim7.holds Tryd.pinned (.plain (OpenSpec.ofChange diskSureSpec)) diskSureCard

/-- THE TIED CARD OF 'larchlaw01.DiskWhole'. -/
def diskWholeCard : Claim7 := { stood := { row := diskWholeRow, standIns := [], harness := (true, "9830ea45d55c99e470eaa9cc2c4b8a3aabfbd5fae7cde904e2e77eb8c02eee8f"), looks := false }, kinds := [], alts := [], laidByText := true, laidKinds := [.sentinel], laidTests := true, laidLooks := .later }
def DiskWholeCardSaid : Prop := Claim7.holds Tryd.pinned (.plain (OpenSpec.ofChange diskWholeSpec)) diskWholeCard

/-- THE TIED CARD OF 'larchlaw01.DiskActs'. -/
def diskActsCard : Claim7 := { stood := { row := diskActsRow, standIns := [], harness := (true, "9830ea45d55c99e470eaa9cc2c4b8a3aabfbd5fae7cde904e2e77eb8c02eee8f"), looks := false }, kinds := [], alts := [], laidByText := true, laidKinds := [.sentinel], laidTests := true, laidLooks := .later }
def DiskActsCardSaid : Prop := Claim7.holds Tryd.pinned (.plain (OpenSpec.ofChange diskActsSpec)) diskActsCard

/-- THE TIED CARD OF 'larchlaw01.DiskTrips'. -/
def diskTripsCard : Claim7 := { stood := { row := diskTripsRow, standIns := [], harness := (true, "9830ea45d55c99e470eaa9cc2c4b8a3aabfbd5fae7cde904e2e77eb8c02eee8f"), looks := false }, kinds := [], alts := [], laidByText := true, laidKinds := [.sentinel], laidTests := true, laidLooks := .later }
def DiskTripsCardSaid : Prop := Claim7.holds Tryd.pinned (.plain (OpenSpec.ofChange diskTripsSpec)) diskTripsCard

/-- THE TIED CARD OF 'larchlaw01.DiskVoid'. -/
def diskVoidCard : Claim7 := { stood := { row := diskVoidRow, standIns := [], harness := (true, "9830ea45d55c99e470eaa9cc2c4b8a3aabfbd5fae7cde904e2e77eb8c02eee8f"), looks := false }, kinds := [], alts := [], laidByText := true, laidKinds := [.sentinel], laidTests := true, laidLooks := .later }
def DiskVoidCardSaid : Prop := Claim7.holds Tryd.pinned (.plain (OpenSpec.ofChange diskVoidSpec)) diskVoidCard

/-- THE SECOND FORM's CARD OF 'larchlaw01.DiskLoads'. -/
def diskLoadsUptoCard : Claim7 := { stood := { row := diskLoadsUptoRow, standIns := [], harness := (true, "9830ea45d55c99e470eaa9cc2c4b8a3aabfbd5fae7cde904e2e77eb8c02eee8f"), looks := false }, kinds := [], alts := [], laidByText := true, laidKinds := [.sentinel], laidTests := true, laidLooks := .later }
def DiskLoadsUptoCardSaid : Prop := Claim7.holds Tryd.pinned (.plain (OpenSpec.upto diskLoadsSpec)) diskLoadsUptoCard

/-- THE SECOND FORM's CARD OF 'larchlaw01.DiskSure'. -/
def diskSureUptoCard : Claim7 := { stood := { row := diskSureUptoRow, standIns := [], harness := (true, "9830ea45d55c99e470eaa9cc2c4b8a3aabfbd5fae7cde904e2e77eb8c02eee8f"), looks := false }, kinds := [], alts := [], laidByText := true, laidKinds := [.sentinel], laidTests := true, laidLooks := .later }
def DiskSureUptoCardSaid : Prop := Claim7.holds Tryd.pinned (.plain (OpenSpec.upto diskSureSpec)) diskSureUptoCard

/-- THE SECOND FORM's CARD OF 'larchlaw01.DiskWhole'. -/
def diskWholeUptoCard : Claim7 := { stood := { row := diskWholeUptoRow, standIns := [], harness := (true, "9830ea45d55c99e470eaa9cc2c4b8a3aabfbd5fae7cde904e2e77eb8c02eee8f"), looks := false }, kinds := [], alts := [], laidByText := true, laidKinds := [.sentinel], laidTests := true, laidLooks := .later }
def DiskWholeUptoCardSaid : Prop := Claim7.holds Tryd.pinned (.plain (OpenSpec.upto diskWholeSpec)) diskWholeUptoCard

/-- THE SECOND FORM's CARD OF 'larchlaw01.DiskActs'. -/
def diskActsUptoCard : Claim7 := { stood := { row := diskActsUptoRow, standIns := [], harness := (true, "9830ea45d55c99e470eaa9cc2c4b8a3aabfbd5fae7cde904e2e77eb8c02eee8f"), looks := false }, kinds := [], alts := [], laidByText := true, laidKinds := [.sentinel], laidTests := true, laidLooks := .later }
def DiskActsUptoCardSaid : Prop := Claim7.holds Tryd.pinned (.plain (OpenSpec.upto diskActsSpec)) diskActsUptoCard

/-- THE SECOND FORM's CARD OF 'larchlaw01.DiskTrips'. -/
def diskTripsUptoCard : Claim7 := { stood := { row := diskTripsUptoRow, standIns := [], harness := (true, "9830ea45d55c99e470eaa9cc2c4b8a3aabfbd5fae7cde904e2e77eb8c02eee8f"), looks := false }, kinds := [], alts := [], laidByText := true, laidKinds := [.sentinel], laidTests := true, laidLooks := .later }
def DiskTripsUptoCardSaid : Prop := Claim7.holds Tryd.pinned (.plain (OpenSpec.upto diskTripsSpec)) diskTripsUptoCard

/-- THE SECOND FORM's CARD OF 'larchlaw01.DiskVoid'. -/
def diskVoidUptoCard : Claim7 := { stood := { row := diskVoidUptoRow, standIns := [], harness := (true, "9830ea45d55c99e470eaa9cc2c4b8a3aabfbd5fae7cde904e2e77eb8c02eee8f"), looks := false }, kinds := [], alts := [], laidByText := true, laidKinds := [.sentinel], laidTests := true, laidLooks := .later }
def DiskVoidUptoCardSaid : Prop := Claim7.holds Tryd.pinned (.plain (OpenSpec.upto diskVoidSpec)) diskVoidUptoCard
end Rows
end Go.Proofs.YtgfdpojpcpgddaaDoor
