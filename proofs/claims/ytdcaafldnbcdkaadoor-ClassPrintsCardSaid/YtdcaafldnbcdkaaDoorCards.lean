/-
  DERIVED. GIVEN WITH THE SEED: THE CARDS: each row of YtdcaafldnbcdkaaDoorRows.lean that lists a variable, with what it lists TIED to the program's text (the seventh form; the later family's looks); each row that meets fmt, with fmt's text TOLD by the authors' own Lean function (tested against real Go, not proved from fmt's source: count such statements apart). THE CARD IS WHAT COUNTS. Prove the row's statement (the work); the ties are given (YtdcaafldnbcdkaaDoorTie.lean); close each card by the builder's one call (the guide's Derived/Test/ToyasCard.lean, 'card_holds'). Laid BY PROGRAM, IN A SANDBOX (cutbox-door.mjs). By AI agents, Wed Nov 11 2026. No macro, syntax, notation, axiom, sorry.
-/
import Derived.Test.YtdcaafldnbcdkaaDoorRows
import GoSem.ClaimSeven
namespace Go.Proofs.YtdcaafldnbcdkaaDoor
namespace Rows

/-- THE TIED CARD OF 'larchlaw08.ClassFinds'. -/
def classFindsCard : Claim7 := { stood := { row := classFindsRow, standIns := [], harness := (true, "44e4492d6642a0eeed3f577da77d8b7ef37fdc1137aad567353b04da2a1d5e09"), looks := false }, kinds := [], alts := [], laidByText := true, laidKinds := [.widerDeep], laidTests := true, laidLooks := .later }
def ClassFindsCardSaid : Prop := Claim7.holds Tryd.pinned (.plain (OpenSpec.ofChange classFindsSpec)) classFindsCard

/-- THE TIED CARD OF 'larchlaw08.ClassCopies'. -/
def classCopiesCard : Claim7 := { stood := { row := classCopiesRow, standIns := [], harness := (true, "44e4492d6642a0eeed3f577da77d8b7ef37fdc1137aad567353b04da2a1d5e09"), looks := false }, kinds := [], alts := [], laidByText := true, laidKinds := [.widerDeep], laidTests := true, laidLooks := .later }
def ClassCopiesCardSaid : Prop := Claim7.holds Tryd.pinned (.plain (OpenSpec.ofChange classCopiesSpec)) classCopiesCard

/-- THE TIED CARD OF 'larchlaw08.ClassPrints'. -/
def classPrintsCard : Claim7 := { stood := { row := classPrintsRow, standIns := [], harness := (true, "44e4492d6642a0eeed3f577da77d8b7ef37fdc1137aad567353b04da2a1d5e09"), looks := false }, kinds := [], alts := [], laidByText := true, laidKinds := [.widerDeep], laidTests := true, laidLooks := .later }
def ClassPrintsCardSaid : Prop := Claim7.holds Tryd.pinned (.plain (OpenSpec.ofChange classPrintsSpec)) classPrintsCard

/-- THE TIED CARD OF 'larchlaw08.ClassBack'. -/
def classBackCard : Claim7 := { stood := { row := classBackRow, standIns := [], harness := (true, "44e4492d6642a0eeed3f577da77d8b7ef37fdc1137aad567353b04da2a1d5e09"), looks := false }, kinds := [], alts := [], laidByText := true, laidKinds := [.widerDeep], laidTests := true, laidLooks := .later }
def ClassBackCardSaid : Prop := Claim7.holds Tryd.pinned (.plain (OpenSpec.ofChange classBackSpec)) classBackCard

/-- THE TIED CARD OF 'larchlaw08.ClassCuts'. -/
def classCutsCard : Claim7 := { stood := { row := classCutsRow, standIns := [], harness := (true, "44e4492d6642a0eeed3f577da77d8b7ef37fdc1137aad567353b04da2a1d5e09"), looks := false }, kinds := [], alts := [], laidByText := true, laidKinds := [.widerDeep], laidTests := true, laidLooks := .later }
def ClassCutsCardSaid : Prop := Claim7.holds Tryd.pinned (.plain (OpenSpec.ofChange classCutsSpec)) classCutsCard

/-- THE SECOND FORM's CARD OF 'larchlaw08.ClassFinds'. -/
def classFindsUptoCard : Claim7 := { stood := { row := classFindsUptoRow, standIns := [], harness := (true, "44e4492d6642a0eeed3f577da77d8b7ef37fdc1137aad567353b04da2a1d5e09"), looks := false }, kinds := [], alts := [], laidByText := true, laidKinds := [.widerDeep], laidTests := true, laidLooks := .later }
def ClassFindsUptoCardSaid : Prop := Claim7.holds Tryd.pinned (.plain (OpenSpec.upto classFindsSpec)) classFindsUptoCard

/-- THE SECOND FORM's CARD OF 'larchlaw08.ClassCopies'. -/
def classCopiesUptoCard : Claim7 := { stood := { row := classCopiesUptoRow, standIns := [], harness := (true, "44e4492d6642a0eeed3f577da77d8b7ef37fdc1137aad567353b04da2a1d5e09"), looks := false }, kinds := [], alts := [], laidByText := true, laidKinds := [.widerDeep], laidTests := true, laidLooks := .later }
def ClassCopiesUptoCardSaid : Prop := Claim7.holds Tryd.pinned (.plain (OpenSpec.upto classCopiesSpec)) classCopiesUptoCard

/-- THE SECOND FORM's CARD OF 'larchlaw08.ClassPrints'. -/
def classPrintsUptoCard : Claim7 := { stood := { row := classPrintsUptoRow, standIns := [], harness := (true, "44e4492d6642a0eeed3f577da77d8b7ef37fdc1137aad567353b04da2a1d5e09"), looks := false }, kinds := [], alts := [], laidByText := true, laidKinds := [.widerDeep], laidTests := true, laidLooks := .later }
def ClassPrintsUptoCardSaid : Prop := Claim7.holds Tryd.pinned (.plain (OpenSpec.upto classPrintsSpec)) classPrintsUptoCard

/-- THE SECOND FORM's CARD OF 'larchlaw08.ClassBack'. -/
def classBackUptoCard : Claim7 := { stood := { row := classBackUptoRow, standIns := [], harness := (true, "44e4492d6642a0eeed3f577da77d8b7ef37fdc1137aad567353b04da2a1d5e09"), looks := false }, kinds := [], alts := [], laidByText := true, laidKinds := [.widerDeep], laidTests := true, laidLooks := .later }
def ClassBackUptoCardSaid : Prop := Claim7.holds Tryd.pinned (.plain (OpenSpec.upto classBackSpec)) classBackUptoCard

/-- THE SECOND FORM's CARD OF 'larchlaw08.ClassCuts'. -/
def classCutsUptoCard : Claim7 := { stood := { row := classCutsUptoRow, standIns := [], harness := (true, "44e4492d6642a0eeed3f577da77d8b7ef37fdc1137aad567353b04da2a1d5e09"), looks := false }, kinds := [], alts := [], laidByText := true, laidKinds := [.widerDeep], laidTests := true, laidLooks := .later }
def ClassCutsUptoCardSaid : Prop := Claim7.holds Tryd.pinned (.plain (OpenSpec.upto classCutsSpec)) classCutsUptoCard
end Rows
end Go.Proofs.YtdcaafldnbcdkaaDoor
