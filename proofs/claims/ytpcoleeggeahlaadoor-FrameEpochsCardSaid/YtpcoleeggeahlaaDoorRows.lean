/-
  NARROWER THAN 'FOR EVERY INPUT', by the rows' own cells (each row's printed sentence says how): FrameTurned: laid · FrameWrites: laid · FrameBack: laid · FrameEpochs: laid.
  DERIVED. THE GIVEN ROWS OF THIS SEAT. 4 by the template 'for every input the law returns true; each argument reads behind the call as it read before'; 0 by the template 'total and deterministic' (their statements: YtpcoleeggeahlaaDoorTotals.lean).
  GIVEN WITH THE SEED: the statements are not yours to turn. If you find one false, say at which input.
  Laid BY PROGRAM, IN A SANDBOX (cutbox-rows.mjs): the forced cells as the released guide's own fill.sh prints them over the translation 0eae5227e0465f7c… (all of the seat's roots in one cut). By AI agents, Wed Nov 11 2026. No macro, syntax, notation, axiom, sorry.
-/
import Derived.Test.YtpcoleeggeahlaaDoorChecked
import GoSem.Claim
import GoSem.ClaimJoined
import GoSem.ClaimMapViews
import Derived.JoinedTies
import Derived.KernelRfl
namespace Go.Proofs.YtpcoleeggeahlaaDoor
/- THE CELL 'sum', in the pinned program and in every row, IS THE sha256 OF THE DUMP (.gsa) THAT YtpcoleeggeahlaaDoorProg.lean LOADS. Nothing in Lean hashes anything: it is a label: what it is worth is what the hold of that sum in a sandbox is worth. -/
noncomputable def Tryd.pinned : Pinned := { name := "ytpcoleeggeahlaadoor", sum := "0eae5227e0465f7c6b3cfd1c94760905cacc1497bee7523b630d514b656f6bc5", checked := Tryd.checked }
namespace Rows
def none {H : Type} : Left H := { results := [], args := [] }

/- WHAT THE LISTED PACKAGE-LEVEL VARIABLES READ AS WHEN THE CALL BEGINS. Each datum BY PROGRAM (the guide's laid-datum.mjs) off the statement by which the dump's own 'gosem.cut.vars' lays the variable. In a bare row this is a premise. The card (YtpcoleeggeahlaaDoorCards.lean) ties it to the program's text. -/
def laid_larch_sum_nibbles {H : Type} : DataW H := .agg [.lit (.int .u32 0), .lit (.int .u32 274646895), .lit (.int .u32 549293790), .lit (.int .u32 820201905), .lit (.int .u32 1098587580), .lit (.int .u32 1361435347), .lit (.int .u32 1640403810), .lit (.int .u32 1905808397), .lit (.int .u32 2197175160), .lit (.int .u32 2460548119), .lit (.int .u32 2722870694), .lit (.int .u32 2987750089), .lit (.int .u32 3280807620), .lit (.int .u32 3553878443), .lit (.int .u32 3811616794), .lit (.int .u32 4084100981)]

/-- 'larchlaw03.FrameTurned': WHATEVER THE INPUT: true; the input reads as it did. -/
def frameTurnedSpec : ChangeSpec := { name := "frameTurned", fn := fun _ => fun
  | [d1, d2, d3] => { results := [.lit (.bool true)], args := [d1, d2, d3] }
  | _ => none }
def frameTurnedRow : OpenClaim := { program := "ytpcoleeggeahlaadoor", sum := "0eae5227e0465f7c6b3cfd1c94760905cacc1497bee7523b630d514b656f6bc5", func := "larch/larchlaw03.FrameTurned", spec := "frameTurned", unfollowed := true, recurses := true, named := ["larch/sum.nibbles"], apart := false, laid := [("larch/sum.nibbles", laid_larch_sum_nibbles)] }
def FrameTurnedSaid : Prop := frameTurnedRow.holds Tryd.pinned (OpenSpec.ofChange frameTurnedSpec)

/-- ITS FALSE NEIGHBOUR: 'it returns false'. Refute it at one input. -/
def frameTurnedWrong : ChangeSpec := { name := "frameTurned", fn := fun _ => fun
  | [d1, d2, d3] => { results := [.lit (.bool false)], args := [d1, d2, d3] }
  | _ => none }
def FrameTurnedWrongFalsely : Prop := frameTurnedRow.holds Tryd.pinned (OpenSpec.ofChange frameTurnedWrong)

/-- 'larchlaw03.FrameWrites': WHATEVER THE INPUT: true; the input reads as it did. -/
def frameWritesSpec : ChangeSpec := { name := "frameWrites", fn := fun _ => fun
  | [d] => { results := [.lit (.bool true)], args := [d] }
  | _ => none }
def frameWritesRow : OpenClaim := { program := "ytpcoleeggeahlaadoor", sum := "0eae5227e0465f7c6b3cfd1c94760905cacc1497bee7523b630d514b656f6bc5", func := "larch/larchlaw03.FrameWrites", spec := "frameWrites", unfollowed := true, recurses := true, named := ["larch/sum.nibbles"], apart := false, laid := [("larch/sum.nibbles", laid_larch_sum_nibbles)] }
def FrameWritesSaid : Prop := frameWritesRow.holds Tryd.pinned (OpenSpec.ofChange frameWritesSpec)

/-- ITS FALSE NEIGHBOUR: 'it returns false'. Refute it at one input. -/
def frameWritesWrong : ChangeSpec := { name := "frameWrites", fn := fun _ => fun
  | [d] => { results := [.lit (.bool false)], args := [d] }
  | _ => none }
def FrameWritesWrongFalsely : Prop := frameWritesRow.holds Tryd.pinned (OpenSpec.ofChange frameWritesWrong)

/-- 'larchlaw03.FrameBack': WHATEVER THE INPUT: true; the input reads as it did. -/
def frameBackSpec : ChangeSpec := { name := "frameBack", fn := fun _ => fun
  | [d1, d2] => { results := [.lit (.bool true)], args := [d1, d2] }
  | _ => none }
def frameBackRow : OpenClaim := { program := "ytpcoleeggeahlaadoor", sum := "0eae5227e0465f7c6b3cfd1c94760905cacc1497bee7523b630d514b656f6bc5", func := "larch/larchlaw03.FrameBack", spec := "frameBack", unfollowed := true, recurses := true, named := ["larch/sum.nibbles"], apart := false, laid := [("larch/sum.nibbles", laid_larch_sum_nibbles)] }
def FrameBackSaid : Prop := frameBackRow.holds Tryd.pinned (OpenSpec.ofChange frameBackSpec)

/-- ITS FALSE NEIGHBOUR: 'it returns false'. Refute it at one input. -/
def frameBackWrong : ChangeSpec := { name := "frameBack", fn := fun _ => fun
  | [d1, d2] => { results := [.lit (.bool false)], args := [d1, d2] }
  | _ => none }
def FrameBackWrongFalsely : Prop := frameBackRow.holds Tryd.pinned (OpenSpec.ofChange frameBackWrong)

/-- 'larchlaw03.FrameEpochs': WHATEVER THE INPUT: true; the input reads as it did. -/
def frameEpochsSpec : ChangeSpec := { name := "frameEpochs", fn := fun _ => fun
  | [d1, d2] => { results := [.lit (.bool true)], args := [d1, d2] }
  | _ => none }
def frameEpochsRow : OpenClaim := { program := "ytpcoleeggeahlaadoor", sum := "0eae5227e0465f7c6b3cfd1c94760905cacc1497bee7523b630d514b656f6bc5", func := "larch/larchlaw03.FrameEpochs", spec := "frameEpochs", unfollowed := true, recurses := true, named := ["larch/sum.nibbles"], apart := false, laid := [("larch/sum.nibbles", laid_larch_sum_nibbles)] }
def FrameEpochsSaid : Prop := frameEpochsRow.holds Tryd.pinned (OpenSpec.ofChange frameEpochsSpec)

/-- ITS FALSE NEIGHBOUR: 'it returns false'. Refute it at one input. -/
def frameEpochsWrong : ChangeSpec := { name := "frameEpochs", fn := fun _ => fun
  | [d1, d2] => { results := [.lit (.bool false)], args := [d1, d2] }
  | _ => none }
def FrameEpochsWrongFalsely : Prop := frameEpochsRow.holds Tryd.pinned (OpenSpec.ofChange frameEpochsWrong)

/- THE SECOND FORM. 'bulk': how many values and letters a reading holds, each counted each time it is reached (what is shared counts as often as it is met; a slice's spare places count too). A statement '..UptoSaid' is the law's where the arguments, and the package variables that the reading takes, are together of bulk at most 1048576: NARROWER than '..Said'. Prove '..Said' where nothing that the law and all that it calls make is longer than what came in: it says more and counts as full. Else prove '..UptoSaid'. A law counts once. -/
mutual
def uptoBulk {H : Type} : DataW H → Nat
  | .lit (.string bytes) => bytes.length + 1
  | .lit _ => 1
  | .nil => 1
  | .ptr d => uptoBulk d + 1
  | .slice elems spare => uptoBulkAll elems + uptoBulkAll spare + 1
  | .agg parts => uptoBulkAll parts + 1
  | .iface _ d => uptoBulk d + 1
  | .map entries => uptoBulkEntries entries + 1
  | .held _ => 1
def uptoBulkAll {H : Type} : List (DataW H) → Nat
  | [] => 0
  | d :: r => uptoBulk d + uptoBulkAll r
def uptoBulkEntries {H : Type} : List (Lit × DataW H) → Nat
  | [] => 0
  | x :: r => uptoBulkEntry x + uptoBulkEntries r
def uptoBulkEntry {H : Type} : Lit × DataW H → Nat
  | (.string bytes, d) => bytes.length + uptoBulk d + 1
  | (_, d) => uptoBulk d + 1
 end
def uptoSmall : (H : Type) → List (DataW H) → Bool := fun _ ds => decide (uptoBulkAll ds ≤ 1048576)
def OpenSpec.upto (s : _root_.Go.ChangeSpec) : _root_.Go.OpenSpec := { _root_.Go.OpenSpec.ofChange s with cond := some uptoSmall }

/-- 'larchlaw03.FrameTurned', WHERE WHAT IT READS IS OF BULK AT MOST 1048576: true; the input reads as it did. -/
def frameTurnedUptoRow : OpenClaim := { program := "ytpcoleeggeahlaadoor", sum := "0eae5227e0465f7c6b3cfd1c94760905cacc1497bee7523b630d514b656f6bc5", func := "larch/larchlaw03.FrameTurned", spec := "frameTurned", unfollowed := true, recurses := true, named := ["larch/sum.nibbles"], apart := false, laid := [("larch/sum.nibbles", laid_larch_sum_nibbles)], narrowed := true }
def FrameTurnedUptoSaid : Prop := frameTurnedUptoRow.holds Tryd.pinned (OpenSpec.upto frameTurnedSpec)

/-- 'larchlaw03.FrameWrites', WHERE WHAT IT READS IS OF BULK AT MOST 1048576: true; the input reads as it did. -/
def frameWritesUptoRow : OpenClaim := { program := "ytpcoleeggeahlaadoor", sum := "0eae5227e0465f7c6b3cfd1c94760905cacc1497bee7523b630d514b656f6bc5", func := "larch/larchlaw03.FrameWrites", spec := "frameWrites", unfollowed := true, recurses := true, named := ["larch/sum.nibbles"], apart := false, laid := [("larch/sum.nibbles", laid_larch_sum_nibbles)], narrowed := true }
def FrameWritesUptoSaid : Prop := frameWritesUptoRow.holds Tryd.pinned (OpenSpec.upto frameWritesSpec)

/-- 'larchlaw03.FrameBack', WHERE WHAT IT READS IS OF BULK AT MOST 1048576: true; the input reads as it did. -/
def frameBackUptoRow : OpenClaim := { program := "ytpcoleeggeahlaadoor", sum := "0eae5227e0465f7c6b3cfd1c94760905cacc1497bee7523b630d514b656f6bc5", func := "larch/larchlaw03.FrameBack", spec := "frameBack", unfollowed := true, recurses := true, named := ["larch/sum.nibbles"], apart := false, laid := [("larch/sum.nibbles", laid_larch_sum_nibbles)], narrowed := true }
def FrameBackUptoSaid : Prop := frameBackUptoRow.holds Tryd.pinned (OpenSpec.upto frameBackSpec)

/-- 'larchlaw03.FrameEpochs', WHERE WHAT IT READS IS OF BULK AT MOST 1048576: true; the input reads as it did. -/
def frameEpochsUptoRow : OpenClaim := { program := "ytpcoleeggeahlaadoor", sum := "0eae5227e0465f7c6b3cfd1c94760905cacc1497bee7523b630d514b656f6bc5", func := "larch/larchlaw03.FrameEpochs", spec := "frameEpochs", unfollowed := true, recurses := true, named := ["larch/sum.nibbles"], apart := false, laid := [("larch/sum.nibbles", laid_larch_sum_nibbles)], narrowed := true }
def FrameEpochsUptoSaid : Prop := frameEpochsUptoRow.holds Tryd.pinned (OpenSpec.upto frameEpochsSpec)

end Rows
end Go.Proofs.YtpcoleeggeahlaaDoor
