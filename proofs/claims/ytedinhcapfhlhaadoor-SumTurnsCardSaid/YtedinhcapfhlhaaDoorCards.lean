/-
  DERIVED. GIVEN WITH THE SEED: THE CARDS: each row of YtedinhcapfhlhaaDoorRows.lean that lists a variable, with what it lists TIED to the program's text (the seventh form; the later family's looks); each row that meets fmt, with fmt's text TOLD by the authors' own Lean function (tested against real Go, not proved from fmt's source: count such statements apart). THE CARD IS WHAT COUNTS. Prove the row's statement (the work); the ties are given (YtedinhcapfhlhaaDoorTie.lean); close each card by the builder's one call (the guide's Derived/Test/ToyasCard.lean, 'card_holds'). Laid BY PROGRAM, IN A SANDBOX (cutbox-door.mjs). By AI agents, Wed Nov 11 2026. No macro, syntax, notation, axiom, sorry.
-/
import Derived.Test.YtedinhcapfhlhaaDoorRows
import GoSem.ClaimSeven
namespace Go.Proofs.YtedinhcapfhlhaaDoor
namespace Rows

/-- THE TIED CARD OF 'larchlaw02.SumTells'. -/
def sumTellsCard : Claim7 := { stood := { row := sumTellsRow, standIns := [], harness := (true, "3f34466fbe438a689d7a85b3b39b1236650f3b463e3b0d43c9f73e4183f83e4b"), looks := false }, kinds := [], alts := [], laidByText := true, laidKinds := [.data], laidTests := true, laidLooks := .later }
def SumTellsCardSaid : Prop := Claim7.holds Tryd.pinned (.plain (OpenSpec.ofChange sumTellsSpec)) sumTellsCard

/-- THE TIED CARD OF 'larchlaw02.SumSeals'. -/
def sumSealsCard : Claim7 := { stood := { row := sumSealsRow, standIns := [], harness := (true, "3f34466fbe438a689d7a85b3b39b1236650f3b463e3b0d43c9f73e4183f83e4b"), looks := false }, kinds := [], alts := [], laidByText := true, laidKinds := [.data], laidTests := true, laidLooks := .later }
def SumSealsCardSaid : Prop := Claim7.holds Tryd.pinned (.plain (OpenSpec.ofChange sumSealsSpec)) sumSealsCard

/-- THE TIED CARD OF 'larchlaw02.SumPieces'. -/
def sumPiecesCard : Claim7 := { stood := { row := sumPiecesRow, standIns := [], harness := (true, "3f34466fbe438a689d7a85b3b39b1236650f3b463e3b0d43c9f73e4183f83e4b"), looks := false }, kinds := [], alts := [], laidByText := true, laidKinds := [.data], laidTests := true, laidLooks := .later }
def SumPiecesCardSaid : Prop := Claim7.holds Tryd.pinned (.plain (OpenSpec.ofChange sumPiecesSpec)) sumPiecesCard

/-- THE TIED CARD OF 'larchlaw02.SumFinds'. -/
def sumFindsCard : Claim7 := { stood := { row := sumFindsRow, standIns := [], harness := (true, "3f34466fbe438a689d7a85b3b39b1236650f3b463e3b0d43c9f73e4183f83e4b"), looks := false }, kinds := [], alts := [], laidByText := true, laidKinds := [.data], laidTests := true, laidLooks := .later }
def SumFindsCardSaid : Prop := Claim7.holds Tryd.pinned (.plain (OpenSpec.ofChange sumFindsSpec)) sumFindsCard

/-- THE TIED CARD OF 'larchlaw02.SumBreaks'. -/
def sumBreaksCard : Claim7 := { stood := { row := sumBreaksRow, standIns := [], harness := (true, "3f34466fbe438a689d7a85b3b39b1236650f3b463e3b0d43c9f73e4183f83e4b"), looks := false }, kinds := [], alts := [], laidByText := true, laidKinds := [.data], laidTests := true, laidLooks := .later }
def SumBreaksCardSaid : Prop := Claim7.holds Tryd.pinned (.plain (OpenSpec.ofChange sumBreaksSpec)) sumBreaksCard

/-- THE TIED CARD OF 'larchlaw02.SumTurns'. -/
def sumTurnsCard : Claim7 := { stood := { row := sumTurnsRow, standIns := [], harness := (true, "3f34466fbe438a689d7a85b3b39b1236650f3b463e3b0d43c9f73e4183f83e4b"), looks := false }, kinds := [], alts := [], laidByText := true, laidKinds := [.data], laidTests := true, laidLooks := .later }
def SumTurnsCardSaid : Prop := Claim7.holds Tryd.pinned (.plain (OpenSpec.ofChange sumTurnsSpec)) sumTurnsCard

/-- THE TIED CARD OF 'larchlaw03.FrameTurned'. -/
def frameTurnedCard : Claim7 := { stood := { row := frameTurnedRow, standIns := [], harness := (true, "3f34466fbe438a689d7a85b3b39b1236650f3b463e3b0d43c9f73e4183f83e4b"), looks := false }, kinds := [], alts := [], laidByText := true, laidKinds := [.data], laidTests := true, laidLooks := .later }
def FrameTurnedCardSaid : Prop := Claim7.holds Tryd.pinned (.plain (OpenSpec.ofChange frameTurnedSpec)) frameTurnedCard

/-- THE TIED CARD OF 'larchlaw03.FrameWrites'. -/
def frameWritesCard : Claim7 := { stood := { row := frameWritesRow, standIns := [], harness := (true, "3f34466fbe438a689d7a85b3b39b1236650f3b463e3b0d43c9f73e4183f83e4b"), looks := false }, kinds := [], alts := [], laidByText := true, laidKinds := [.data], laidTests := true, laidLooks := .later }
def FrameWritesCardSaid : Prop := Claim7.holds Tryd.pinned (.plain (OpenSpec.ofChange frameWritesSpec)) frameWritesCard

/-- THE TIED CARD OF 'larchlaw03.FrameBack'. -/
def frameBackCard : Claim7 := { stood := { row := frameBackRow, standIns := [], harness := (true, "3f34466fbe438a689d7a85b3b39b1236650f3b463e3b0d43c9f73e4183f83e4b"), looks := false }, kinds := [], alts := [], laidByText := true, laidKinds := [.data], laidTests := true, laidLooks := .later }
def FrameBackCardSaid : Prop := Claim7.holds Tryd.pinned (.plain (OpenSpec.ofChange frameBackSpec)) frameBackCard

/-- THE TIED CARD OF 'larchlaw03.FrameEpochs'. -/
def frameEpochsCard : Claim7 := { stood := { row := frameEpochsRow, standIns := [], harness := (true, "3f34466fbe438a689d7a85b3b39b1236650f3b463e3b0d43c9f73e4183f83e4b"), looks := false }, kinds := [], alts := [], laidByText := true, laidKinds := [.data], laidTests := true, laidLooks := .later }
def FrameEpochsCardSaid : Prop := Claim7.holds Tryd.pinned (.plain (OpenSpec.ofChange frameEpochsSpec)) frameEpochsCard

/-- THE SECOND FORM's CARD OF 'larchlaw02.SumTells'. -/
def sumTellsUptoCard : Claim7 := { stood := { row := sumTellsUptoRow, standIns := [], harness := (true, "3f34466fbe438a689d7a85b3b39b1236650f3b463e3b0d43c9f73e4183f83e4b"), looks := false }, kinds := [], alts := [], laidByText := true, laidKinds := [.data], laidTests := true, laidLooks := .later }
def SumTellsUptoCardSaid : Prop := Claim7.holds Tryd.pinned (.plain (OpenSpec.upto sumTellsSpec)) sumTellsUptoCard

/-- THE SECOND FORM's CARD OF 'larchlaw02.SumSeals'. -/
def sumSealsUptoCard : Claim7 := { stood := { row := sumSealsUptoRow, standIns := [], harness := (true, "3f34466fbe438a689d7a85b3b39b1236650f3b463e3b0d43c9f73e4183f83e4b"), looks := false }, kinds := [], alts := [], laidByText := true, laidKinds := [.data], laidTests := true, laidLooks := .later }
def SumSealsUptoCardSaid : Prop := Claim7.holds Tryd.pinned (.plain (OpenSpec.upto sumSealsSpec)) sumSealsUptoCard

/-- THE SECOND FORM's CARD OF 'larchlaw02.SumPieces'. -/
def sumPiecesUptoCard : Claim7 := { stood := { row := sumPiecesUptoRow, standIns := [], harness := (true, "3f34466fbe438a689d7a85b3b39b1236650f3b463e3b0d43c9f73e4183f83e4b"), looks := false }, kinds := [], alts := [], laidByText := true, laidKinds := [.data], laidTests := true, laidLooks := .later }
def SumPiecesUptoCardSaid : Prop := Claim7.holds Tryd.pinned (.plain (OpenSpec.upto sumPiecesSpec)) sumPiecesUptoCard

/-- THE SECOND FORM's CARD OF 'larchlaw02.SumFinds'. -/
def sumFindsUptoCard : Claim7 := { stood := { row := sumFindsUptoRow, standIns := [], harness := (true, "3f34466fbe438a689d7a85b3b39b1236650f3b463e3b0d43c9f73e4183f83e4b"), looks := false }, kinds := [], alts := [], laidByText := true, laidKinds := [.data], laidTests := true, laidLooks := .later }
def SumFindsUptoCardSaid : Prop := Claim7.holds Tryd.pinned (.plain (OpenSpec.upto sumFindsSpec)) sumFindsUptoCard

/-- THE SECOND FORM's CARD OF 'larchlaw02.SumBreaks'. -/
def sumBreaksUptoCard : Claim7 := { stood := { row := sumBreaksUptoRow, standIns := [], harness := (true, "3f34466fbe438a689d7a85b3b39b1236650f3b463e3b0d43c9f73e4183f83e4b"), looks := false }, kinds := [], alts := [], laidByText := true, laidKinds := [.data], laidTests := true, laidLooks := .later }
def SumBreaksUptoCardSaid : Prop := Claim7.holds Tryd.pinned (.plain (OpenSpec.upto sumBreaksSpec)) sumBreaksUptoCard

/-- THE SECOND FORM's CARD OF 'larchlaw02.SumTurns'. -/
def sumTurnsUptoCard : Claim7 := { stood := { row := sumTurnsUptoRow, standIns := [], harness := (true, "3f34466fbe438a689d7a85b3b39b1236650f3b463e3b0d43c9f73e4183f83e4b"), looks := false }, kinds := [], alts := [], laidByText := true, laidKinds := [.data], laidTests := true, laidLooks := .later }
def SumTurnsUptoCardSaid : Prop := Claim7.holds Tryd.pinned (.plain (OpenSpec.upto sumTurnsSpec)) sumTurnsUptoCard

/-- THE SECOND FORM's CARD OF 'larchlaw03.FrameTurned'. -/
def frameTurnedUptoCard : Claim7 := { stood := { row := frameTurnedUptoRow, standIns := [], harness := (true, "3f34466fbe438a689d7a85b3b39b1236650f3b463e3b0d43c9f73e4183f83e4b"), looks := false }, kinds := [], alts := [], laidByText := true, laidKinds := [.data], laidTests := true, laidLooks := .later }
def FrameTurnedUptoCardSaid : Prop := Claim7.holds Tryd.pinned (.plain (OpenSpec.upto frameTurnedSpec)) frameTurnedUptoCard

/-- THE SECOND FORM's CARD OF 'larchlaw03.FrameWrites'. -/
def frameWritesUptoCard : Claim7 := { stood := { row := frameWritesUptoRow, standIns := [], harness := (true, "3f34466fbe438a689d7a85b3b39b1236650f3b463e3b0d43c9f73e4183f83e4b"), looks := false }, kinds := [], alts := [], laidByText := true, laidKinds := [.data], laidTests := true, laidLooks := .later }
def FrameWritesUptoCardSaid : Prop := Claim7.holds Tryd.pinned (.plain (OpenSpec.upto frameWritesSpec)) frameWritesUptoCard

/-- THE SECOND FORM's CARD OF 'larchlaw03.FrameBack'. -/
def frameBackUptoCard : Claim7 := { stood := { row := frameBackUptoRow, standIns := [], harness := (true, "3f34466fbe438a689d7a85b3b39b1236650f3b463e3b0d43c9f73e4183f83e4b"), looks := false }, kinds := [], alts := [], laidByText := true, laidKinds := [.data], laidTests := true, laidLooks := .later }
def FrameBackUptoCardSaid : Prop := Claim7.holds Tryd.pinned (.plain (OpenSpec.upto frameBackSpec)) frameBackUptoCard

/-- THE SECOND FORM's CARD OF 'larchlaw03.FrameEpochs'. -/
def frameEpochsUptoCard : Claim7 := { stood := { row := frameEpochsUptoRow, standIns := [], harness := (true, "3f34466fbe438a689d7a85b3b39b1236650f3b463e3b0d43c9f73e4183f83e4b"), looks := false }, kinds := [], alts := [], laidByText := true, laidKinds := [.data], laidTests := true, laidLooks := .later }
def FrameEpochsUptoCardSaid : Prop := Claim7.holds Tryd.pinned (.plain (OpenSpec.upto frameEpochsSpec)) frameEpochsUptoCard
end Rows
end Go.Proofs.YtedinhcapfhlhaaDoor
