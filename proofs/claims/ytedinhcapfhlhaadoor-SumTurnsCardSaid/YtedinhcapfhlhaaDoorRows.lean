/-
  NARROWER THAN 'FOR EVERY INPUT', by the rows' own cells (each row's printed sentence says how): SumTells: laid · SumSeals: laid · SumPieces: laid · SumFinds: laid · SumBreaks: laid · SumTurns: laid · FrameTurned: laid · FrameWrites: laid · FrameBack: laid · FrameEpochs: laid.
  DERIVED. THE GIVEN ROWS OF THIS SEAT. 10 by the template 'for every input the law returns true; each argument reads behind the call as it read before'; 0 by the template 'total and deterministic' (their statements: YtedinhcapfhlhaaDoorTotals.lean).
  GIVEN WITH THE SEED: the statements are not yours to turn. If you find one false, say at which input.
  Laid BY PROGRAM, IN A SANDBOX (cutbox-rows.mjs): the forced cells as the released guide's own fill.sh prints them over the translation 55df49e7b628ec07… (all of the seat's roots in one cut). By AI agents, Wed Nov 11 2026. No macro, syntax, notation, axiom, sorry.
-/
import Derived.Test.YtedinhcapfhlhaaDoorChecked
import GoSem.Claim
import GoSem.ClaimJoined
import GoSem.ClaimMapViews
import Derived.JoinedTies
import Derived.KernelRfl
namespace Go.Proofs.YtedinhcapfhlhaaDoor
/- THE CELL 'sum', in the pinned program and in every row, IS THE sha256 OF THE DUMP (.gsa) THAT YtedinhcapfhlhaaDoorProg.lean LOADS. Nothing in Lean hashes anything: it is a label: what it is worth is what the hold of that sum in a sandbox is worth. -/
noncomputable def Tryd.pinned : Pinned := { name := "ytedinhcapfhlhaadoor", sum := "55df49e7b628ec07ae77f5033b94f041b371a4bf4656b46092003b4f3903c5aa", checked := Tryd.checked }
namespace Rows
def none {H : Type} : Left H := { results := [], args := [] }

/- WHAT THE LISTED PACKAGE-LEVEL VARIABLES READ AS WHEN THE CALL BEGINS. Each datum BY PROGRAM (the guide's laid-datum.mjs) off the statement by which the dump's own 'gosem.cut.vars' lays the variable. In a bare row this is a premise. The card (YtedinhcapfhlhaaDoorCards.lean) ties it to the program's text. -/
def laid_larch_sum_nibbles {H : Type} : DataW H := .agg [.lit (.int .u32 0), .lit (.int .u32 274646895), .lit (.int .u32 549293790), .lit (.int .u32 820201905), .lit (.int .u32 1098587580), .lit (.int .u32 1361435347), .lit (.int .u32 1640403810), .lit (.int .u32 1905808397), .lit (.int .u32 2197175160), .lit (.int .u32 2460548119), .lit (.int .u32 2722870694), .lit (.int .u32 2987750089), .lit (.int .u32 3280807620), .lit (.int .u32 3553878443), .lit (.int .u32 3811616794), .lit (.int .u32 4084100981)]

/-- 'larchlaw02.SumTells': WHATEVER THE INPUT: true; the input reads as it did. -/
def sumTellsSpec : ChangeSpec := { name := "sumTells", fn := fun _ => fun
  | [d1, d2] => { results := [.lit (.bool true)], args := [d1, d2] }
  | _ => none }
def sumTellsRow : OpenClaim := { program := "ytedinhcapfhlhaadoor", sum := "55df49e7b628ec07ae77f5033b94f041b371a4bf4656b46092003b4f3903c5aa", func := "larch/larchlaw02.SumTells", spec := "sumTells", named := ["larch/sum.nibbles"], apart := false, laid := [("larch/sum.nibbles", laid_larch_sum_nibbles)] }
def SumTellsSaid : Prop := sumTellsRow.holds Tryd.pinned (OpenSpec.ofChange sumTellsSpec)

/-- ITS FALSE NEIGHBOUR: 'it returns false'. Refute it at one input. -/
def sumTellsWrong : ChangeSpec := { name := "sumTells", fn := fun _ => fun
  | [d1, d2] => { results := [.lit (.bool false)], args := [d1, d2] }
  | _ => none }
def SumTellsWrongFalsely : Prop := sumTellsRow.holds Tryd.pinned (OpenSpec.ofChange sumTellsWrong)

/-- 'larchlaw02.SumSeals': WHATEVER THE INPUT: true; the input reads as it did. -/
def sumSealsSpec : ChangeSpec := { name := "sumSeals", fn := fun _ => fun
  | [d] => { results := [.lit (.bool true)], args := [d] }
  | _ => none }
def sumSealsRow : OpenClaim := { program := "ytedinhcapfhlhaadoor", sum := "55df49e7b628ec07ae77f5033b94f041b371a4bf4656b46092003b4f3903c5aa", func := "larch/larchlaw02.SumSeals", spec := "sumSeals", named := ["larch/sum.nibbles"], apart := false, laid := [("larch/sum.nibbles", laid_larch_sum_nibbles)] }
def SumSealsSaid : Prop := sumSealsRow.holds Tryd.pinned (OpenSpec.ofChange sumSealsSpec)

/-- ITS FALSE NEIGHBOUR: 'it returns false'. Refute it at one input. -/
def sumSealsWrong : ChangeSpec := { name := "sumSeals", fn := fun _ => fun
  | [d] => { results := [.lit (.bool false)], args := [d] }
  | _ => none }
def SumSealsWrongFalsely : Prop := sumSealsRow.holds Tryd.pinned (OpenSpec.ofChange sumSealsWrong)

/-- 'larchlaw02.SumPieces': WHATEVER THE INPUT: true; the input reads as it did. -/
def sumPiecesSpec : ChangeSpec := { name := "sumPieces", fn := fun _ => fun
  | [d1, d2] => { results := [.lit (.bool true)], args := [d1, d2] }
  | _ => none }
def sumPiecesRow : OpenClaim := { program := "ytedinhcapfhlhaadoor", sum := "55df49e7b628ec07ae77f5033b94f041b371a4bf4656b46092003b4f3903c5aa", func := "larch/larchlaw02.SumPieces", spec := "sumPieces", named := ["larch/sum.nibbles"], apart := false, laid := [("larch/sum.nibbles", laid_larch_sum_nibbles)] }
def SumPiecesSaid : Prop := sumPiecesRow.holds Tryd.pinned (OpenSpec.ofChange sumPiecesSpec)

/-- ITS FALSE NEIGHBOUR: 'it returns false'. Refute it at one input. -/
def sumPiecesWrong : ChangeSpec := { name := "sumPieces", fn := fun _ => fun
  | [d1, d2] => { results := [.lit (.bool false)], args := [d1, d2] }
  | _ => none }
def SumPiecesWrongFalsely : Prop := sumPiecesRow.holds Tryd.pinned (OpenSpec.ofChange sumPiecesWrong)

/-- 'larchlaw02.SumFinds': WHATEVER THE INPUT: true; the input reads as it did. -/
def sumFindsSpec : ChangeSpec := { name := "sumFinds", fn := fun _ => fun
  | [d1, d2, d3] => { results := [.lit (.bool true)], args := [d1, d2, d3] }
  | _ => none }
def sumFindsRow : OpenClaim := { program := "ytedinhcapfhlhaadoor", sum := "55df49e7b628ec07ae77f5033b94f041b371a4bf4656b46092003b4f3903c5aa", func := "larch/larchlaw02.SumFinds", spec := "sumFinds", named := ["larch/sum.nibbles"], apart := false, laid := [("larch/sum.nibbles", laid_larch_sum_nibbles)] }
def SumFindsSaid : Prop := sumFindsRow.holds Tryd.pinned (OpenSpec.ofChange sumFindsSpec)

/-- ITS FALSE NEIGHBOUR: 'it returns false'. Refute it at one input. -/
def sumFindsWrong : ChangeSpec := { name := "sumFinds", fn := fun _ => fun
  | [d1, d2, d3] => { results := [.lit (.bool false)], args := [d1, d2, d3] }
  | _ => none }
def SumFindsWrongFalsely : Prop := sumFindsRow.holds Tryd.pinned (OpenSpec.ofChange sumFindsWrong)

/-- 'larchlaw02.SumBreaks': WHATEVER THE INPUT: true; the input reads as it did. -/
def sumBreaksSpec : ChangeSpec := { name := "sumBreaks", fn := fun _ => fun
  | [d1, d2, d3] => { results := [.lit (.bool true)], args := [d1, d2, d3] }
  | _ => none }
def sumBreaksRow : OpenClaim := { program := "ytedinhcapfhlhaadoor", sum := "55df49e7b628ec07ae77f5033b94f041b371a4bf4656b46092003b4f3903c5aa", func := "larch/larchlaw02.SumBreaks", spec := "sumBreaks", named := ["larch/sum.nibbles"], apart := false, laid := [("larch/sum.nibbles", laid_larch_sum_nibbles)] }
def SumBreaksSaid : Prop := sumBreaksRow.holds Tryd.pinned (OpenSpec.ofChange sumBreaksSpec)

/-- ITS FALSE NEIGHBOUR: 'it returns false'. Refute it at one input. -/
def sumBreaksWrong : ChangeSpec := { name := "sumBreaks", fn := fun _ => fun
  | [d1, d2, d3] => { results := [.lit (.bool false)], args := [d1, d2, d3] }
  | _ => none }
def SumBreaksWrongFalsely : Prop := sumBreaksRow.holds Tryd.pinned (OpenSpec.ofChange sumBreaksWrong)

/-- 'larchlaw02.SumTurns': WHATEVER THE INPUT: true; the input reads as it did. -/
def sumTurnsSpec : ChangeSpec := { name := "sumTurns", fn := fun _ => fun
  | [d1, d2, d3, d4, d5] => { results := [.lit (.bool true)], args := [d1, d2, d3, d4, d5] }
  | _ => none }
def sumTurnsRow : OpenClaim := { program := "ytedinhcapfhlhaadoor", sum := "55df49e7b628ec07ae77f5033b94f041b371a4bf4656b46092003b4f3903c5aa", func := "larch/larchlaw02.SumTurns", spec := "sumTurns", named := ["larch/sum.nibbles"], apart := false, laid := [("larch/sum.nibbles", laid_larch_sum_nibbles)] }
def SumTurnsSaid : Prop := sumTurnsRow.holds Tryd.pinned (OpenSpec.ofChange sumTurnsSpec)

/-- ITS FALSE NEIGHBOUR: 'it returns false'. Refute it at one input. -/
def sumTurnsWrong : ChangeSpec := { name := "sumTurns", fn := fun _ => fun
  | [d1, d2, d3, d4, d5] => { results := [.lit (.bool false)], args := [d1, d2, d3, d4, d5] }
  | _ => none }
def SumTurnsWrongFalsely : Prop := sumTurnsRow.holds Tryd.pinned (OpenSpec.ofChange sumTurnsWrong)

/-- 'larchlaw03.FrameTurned': WHATEVER THE INPUT: true; the input reads as it did. -/
def frameTurnedSpec : ChangeSpec := { name := "frameTurned", fn := fun _ => fun
  | [d1, d2, d3] => { results := [.lit (.bool true)], args := [d1, d2, d3] }
  | _ => none }
def frameTurnedRow : OpenClaim := { program := "ytedinhcapfhlhaadoor", sum := "55df49e7b628ec07ae77f5033b94f041b371a4bf4656b46092003b4f3903c5aa", func := "larch/larchlaw03.FrameTurned", spec := "frameTurned", unfollowed := true, recurses := true, named := ["larch/sum.nibbles"], apart := false, laid := [("larch/sum.nibbles", laid_larch_sum_nibbles)] }
def FrameTurnedSaid : Prop := frameTurnedRow.holds Tryd.pinned (OpenSpec.ofChange frameTurnedSpec)

/-- ITS FALSE NEIGHBOUR: 'it returns false'. Refute it at one input. -/
def frameTurnedWrong : ChangeSpec := { name := "frameTurned", fn := fun _ => fun
  | [d1, d2, d3] => { results := [.lit (.bool false)], args := [d1, d2, d3] }
  | _ => none }
def FrameTurnedWrongFalsely : Prop := frameTurnedRow.holds Tryd.pinned (OpenSpec.ofChange frameTurnedWrong)

/-- 'larchlaw03.FrameWrites': WHATEVER THE INPUT: true; the input reads as it did. -/
def frameWritesSpec : ChangeSpec := { name := "frameWrites", fn := fun _ => fun
  | [d] => { results := [.lit (.bool true)], args := [d] }
  | _ => none }
def frameWritesRow : OpenClaim := { program := "ytedinhcapfhlhaadoor", sum := "55df49e7b628ec07ae77f5033b94f041b371a4bf4656b46092003b4f3903c5aa", func := "larch/larchlaw03.FrameWrites", spec := "frameWrites", unfollowed := true, recurses := true, named := ["larch/sum.nibbles"], apart := false, laid := [("larch/sum.nibbles", laid_larch_sum_nibbles)] }
def FrameWritesSaid : Prop := frameWritesRow.holds Tryd.pinned (OpenSpec.ofChange frameWritesSpec)

/-- ITS FALSE NEIGHBOUR: 'it returns false'. Refute it at one input. -/
def frameWritesWrong : ChangeSpec := { name := "frameWrites", fn := fun _ => fun
  | [d] => { results := [.lit (.bool false)], args := [d] }
  | _ => none }
def FrameWritesWrongFalsely : Prop := frameWritesRow.holds Tryd.pinned (OpenSpec.ofChange frameWritesWrong)

/-- 'larchlaw03.FrameBack': WHATEVER THE INPUT: true; the input reads as it did. -/
def frameBackSpec : ChangeSpec := { name := "frameBack", fn := fun _ => fun
  | [d1, d2] => { results := [.lit (.bool true)], args := [d1, d2] }
  | _ => none }
def frameBackRow : OpenClaim := { program := "ytedinhcapfhlhaadoor", sum := "55df49e7b628ec07ae77f5033b94f041b371a4bf4656b46092003b4f3903c5aa", func := "larch/larchlaw03.FrameBack", spec := "frameBack", unfollowed := true, recurses := true, named := ["larch/sum.nibbles"], apart := false, laid := [("larch/sum.nibbles", laid_larch_sum_nibbles)] }
def FrameBackSaid : Prop := frameBackRow.holds Tryd.pinned (OpenSpec.ofChange frameBackSpec)

/-- ITS FALSE NEIGHBOUR: 'it returns false'. Refute it at one input. -/
def frameBackWrong : ChangeSpec := { name := "frameBack", fn := fun _ => fun
  | [d1, d2] => { results := [.lit (.bool false)], args := [d1, d2] }
  | _ => none }
def FrameBackWrongFalsely : Prop := frameBackRow.holds Tryd.pinned (OpenSpec.ofChange frameBackWrong)

/-- 'larchlaw03.FrameEpochs': WHATEVER THE INPUT: true; the input reads as it did. -/
def frameEpochsSpec : ChangeSpec := { name := "frameEpochs", fn := fun _ => fun
  | [d1, d2] => { results := [.lit (.bool true)], args := [d1, d2] }
  | _ => none }
def frameEpochsRow : OpenClaim := { program := "ytedinhcapfhlhaadoor", sum := "55df49e7b628ec07ae77f5033b94f041b371a4bf4656b46092003b4f3903c5aa", func := "larch/larchlaw03.FrameEpochs", spec := "frameEpochs", unfollowed := true, recurses := true, named := ["larch/sum.nibbles"], apart := false, laid := [("larch/sum.nibbles", laid_larch_sum_nibbles)] }
def FrameEpochsSaid : Prop := frameEpochsRow.holds Tryd.pinned (OpenSpec.ofChange frameEpochsSpec)

/-- ITS FALSE NEIGHBOUR: 'it returns false'. Refute it at one input. -/
def frameEpochsWrong : ChangeSpec := { name := "frameEpochs", fn := fun _ => fun
  | [d1, d2] => { results := [.lit (.bool false)], args := [d1, d2] }
  | _ => none }
def FrameEpochsWrongFalsely : Prop := frameEpochsRow.holds Tryd.pinned (OpenSpec.ofChange frameEpochsWrong)

/- THE SECOND FORM. 'bulk': how many values and letters a reading holds, each counted each time it is reached (what is shared counts as often as it is met; a slice's spare places count too). A statement '..UptoSaid' is the law's where the arguments, and the package variables that the reading takes, are together of bulk at most 1048576: NARROWER than '..Said'. Prove '..Said' where nothing that the law and all that it calls make is longer than what came in: it says more and counts as full. Else prove '..UptoSaid'. A law counts once. -/
mutual
def uptoBulk {H : Type} : DataW H → Nat
  | .lit (.string bytes) => bytes.length + 1
  | .lit _ => 1
  | .nil => 1
  | .ptr d => uptoBulk d + 1
  | .slice elems spare => uptoBulkAll elems + uptoBulkAll spare + 1
  | .agg parts => uptoBulkAll parts + 1
  | .iface _ d => uptoBulk d + 1
  | .map entries => uptoBulkEntries entries + 1
  | .held _ => 1
def uptoBulkAll {H : Type} : List (DataW H) → Nat
  | [] => 0
  | d :: r => uptoBulk d + uptoBulkAll r
def uptoBulkEntries {H : Type} : List (Lit × DataW H) → Nat
  | [] => 0
  | x :: r => uptoBulkEntry x + uptoBulkEntries r
def uptoBulkEntry {H : Type} : Lit × DataW H → Nat
  | (.string bytes, d) => bytes.length + uptoBulk d + 1
  | (_, d) => uptoBulk d + 1
 end
def uptoSmall : (H : Type) → List (DataW H) → Bool := fun _ ds => decide (uptoBulkAll ds ≤ 1048576)
def OpenSpec.upto (s : _root_.Go.ChangeSpec) : _root_.Go.OpenSpec := { _root_.Go.OpenSpec.ofChange s with cond := some uptoSmall }

/-- 'larchlaw02.SumTells', WHERE WHAT IT READS IS OF BULK AT MOST 1048576: true; the input reads as it did. -/
def sumTellsUptoRow : OpenClaim := { program := "ytedinhcapfhlhaadoor", sum := "55df49e7b628ec07ae77f5033b94f041b371a4bf4656b46092003b4f3903c5aa", func := "larch/larchlaw02.SumTells", spec := "sumTells", named := ["larch/sum.nibbles"], apart := false, laid := [("larch/sum.nibbles", laid_larch_sum_nibbles)], narrowed := true }
def SumTellsUptoSaid : Prop := sumTellsUptoRow.holds Tryd.pinned (OpenSpec.upto sumTellsSpec)

/-- 'larchlaw02.SumSeals', WHERE WHAT IT READS IS OF BULK AT MOST 1048576: true; the input reads as it did. -/
def sumSealsUptoRow : OpenClaim := { program := "ytedinhcapfhlhaadoor", sum := "55df49e7b628ec07ae77f5033b94f041b371a4bf4656b46092003b4f3903c5aa", func := "larch/larchlaw02.SumSeals", spec := "sumSeals", named := ["larch/sum.nibbles"], apart := false, laid := [("larch/sum.nibbles", laid_larch_sum_nibbles)], narrowed := true }
def SumSealsUptoSaid : Prop := sumSealsUptoRow.holds Tryd.pinned (OpenSpec.upto sumSealsSpec)

/-- 'larchlaw02.SumPieces', WHERE WHAT IT READS IS OF BULK AT MOST 1048576: true; the input reads as it did. -/
def sumPiecesUptoRow : OpenClaim := { program := "ytedinhcapfhlhaadoor", sum := "55df49e7b628ec07ae77f5033b94f041b371a4bf4656b46092003b4f3903c5aa", func := "larch/larchlaw02.SumPieces", spec := "sumPieces", named := ["larch/sum.nibbles"], apart := false, laid := [("larch/sum.nibbles", laid_larch_sum_nibbles)], narrowed := true }
def SumPiecesUptoSaid : Prop := sumPiecesUptoRow.holds Tryd.pinned (OpenSpec.upto sumPiecesSpec)

/-- 'larchlaw02.SumFinds', WHERE WHAT IT READS IS OF BULK AT MOST 1048576: true; the input reads as it did. -/
def sumFindsUptoRow : OpenClaim := { program := "ytedinhcapfhlhaadoor", sum := "55df49e7b628ec07ae77f5033b94f041b371a4bf4656b46092003b4f3903c5aa", func := "larch/larchlaw02.SumFinds", spec := "sumFinds", named := ["larch/sum.nibbles"], apart := false, laid := [("larch/sum.nibbles", laid_larch_sum_nibbles)], narrowed := true }
def SumFindsUptoSaid : Prop := sumFindsUptoRow.holds Tryd.pinned (OpenSpec.upto sumFindsSpec)

/-- 'larchlaw02.SumBreaks', WHERE WHAT IT READS IS OF BULK AT MOST 1048576: true; the input reads as it did. -/
def sumBreaksUptoRow : OpenClaim := { program := "ytedinhcapfhlhaadoor", sum := "55df49e7b628ec07ae77f5033b94f041b371a4bf4656b46092003b4f3903c5aa", func := "larch/larchlaw02.SumBreaks", spec := "sumBreaks", named := ["larch/sum.nibbles"], apart := false, laid := [("larch/sum.nibbles", laid_larch_sum_nibbles)], narrowed := true }
def SumBreaksUptoSaid : Prop := sumBreaksUptoRow.holds Tryd.pinned (OpenSpec.upto sumBreaksSpec)

/-- 'larchlaw02.SumTurns', WHERE WHAT IT READS IS OF BULK AT MOST 1048576: true; the input reads as it did. -/
def sumTurnsUptoRow : OpenClaim := { program := "ytedinhcapfhlhaadoor", sum := "55df49e7b628ec07ae77f5033b94f041b371a4bf4656b46092003b4f3903c5aa", func := "larch/larchlaw02.SumTurns", spec := "sumTurns", named := ["larch/sum.nibbles"], apart := false, laid := [("larch/sum.nibbles", laid_larch_sum_nibbles)], narrowed := true }
def SumTurnsUptoSaid : Prop := sumTurnsUptoRow.holds Tryd.pinned (OpenSpec.upto sumTurnsSpec)

/-- 'larchlaw03.FrameTurned', WHERE WHAT IT READS IS OF BULK AT MOST 1048576: true; the input reads as it did. -/
def frameTurnedUptoRow : OpenClaim := { program := "ytedinhcapfhlhaadoor", sum := "55df49e7b628ec07ae77f5033b94f041b371a4bf4656b46092003b4f3903c5aa", func := "larch/larchlaw03.FrameTurned", spec := "frameTurned", unfollowed := true, recurses := true, named := ["larch/sum.nibbles"], apart := false, laid := [("larch/sum.nibbles", laid_larch_sum_nibbles)], narrowed := true }
def FrameTurnedUptoSaid : Prop := frameTurnedUptoRow.holds Tryd.pinned (OpenSpec.upto frameTurnedSpec)

/-- 'larchlaw03.FrameWrites', WHERE WHAT IT READS IS OF BULK AT MOST 1048576: true; the input reads as it did. -/
def frameWritesUptoRow : OpenClaim := { program := "ytedinhcapfhlhaadoor", sum := "55df49e7b628ec07ae77f5033b94f041b371a4bf4656b46092003b4f3903c5aa", func := "larch/larchlaw03.FrameWrites", spec := "frameWrites", unfollowed := true, recurses := true, named := ["larch/sum.nibbles"], apart := false, laid := [("larch/sum.nibbles", laid_larch_sum_nibbles)], narrowed := true }
def FrameWritesUptoSaid : Prop := frameWritesUptoRow.holds Tryd.pinned (OpenSpec.upto frameWritesSpec)

/-- 'larchlaw03.FrameBack', WHERE WHAT IT READS IS OF BULK AT MOST 1048576: true; the input reads as it did. -/
def frameBackUptoRow : OpenClaim := { program := "ytedinhcapfhlhaadoor", sum := "55df49e7b628ec07ae77f5033b94f041b371a4bf4656b46092003b4f3903c5aa", func := "larch/larchlaw03.FrameBack", spec := "frameBack", unfollowed := true, recurses := true, named := ["larch/sum.nibbles"], apart := false, laid := [("larch/sum.nibbles", laid_larch_sum_nibbles)], narrowed := true }
def FrameBackUptoSaid : Prop := frameBackUptoRow.holds Tryd.pinned (OpenSpec.upto frameBackSpec)

/-- 'larchlaw03.FrameEpochs', WHERE WHAT IT READS IS OF BULK AT MOST 1048576: true; the input reads as it did. -/
def frameEpochsUptoRow : OpenClaim := { program := "ytedinhcapfhlhaadoor", sum := "55df49e7b628ec07ae77f5033b94f041b371a4bf4656b46092003b4f3903c5aa", func := "larch/larchlaw03.FrameEpochs", spec := "frameEpochs", unfollowed := true, recurses := true, named := ["larch/sum.nibbles"], apart := false, laid := [("larch/sum.nibbles", laid_larch_sum_nibbles)], narrowed := true }
def FrameEpochsUptoSaid : Prop := frameEpochsUptoRow.holds Tryd.pinned (OpenSpec.upto frameEpochsSpec)

end Rows
end Go.Proofs.YtedinhcapfhlhaaDoor
