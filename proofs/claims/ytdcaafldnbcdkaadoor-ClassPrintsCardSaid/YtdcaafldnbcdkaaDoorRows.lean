/-
  NARROWER THAN 'FOR EVERY INPUT', by the rows' own cells (each row's printed sentence says how): ClassFinds: laid · ClassCopies: laid · ClassPrints: laid · ClassBack: laid · ClassCuts: laid.
  DERIVED. THE GIVEN ROWS OF THIS SEAT. 5 by the template 'for every input the law returns true; each argument reads behind the call as it read before'; 0 by the template 'total and deterministic' (their statements: YtdcaafldnbcdkaaDoorTotals.lean).
  GIVEN WITH THE SEED: the statements are not yours to turn. If you find one false, say at which input.
  Laid BY PROGRAM, IN A SANDBOX (cutbox-rows.mjs): the forced cells as the released guide's own fill.sh prints them over the translation cedd8baaf21ae12b… (all of the seat's roots in one cut). By AI agents, Wed Nov 11 2026. No macro, syntax, notation, axiom, sorry.
-/
import Derived.Test.YtdcaafldnbcdkaaDoorChecked
import GoSem.Claim
import GoSem.ClaimJoined
import GoSem.ClaimMapViews
import Derived.JoinedTies
import Derived.KernelRfl
namespace Go.Proofs.YtdcaafldnbcdkaaDoor
/- THE CELL 'sum', in the pinned program and in every row, IS THE sha256 OF THE DUMP (.gsa) THAT YtdcaafldnbcdkaaDoorProg.lean LOADS. Nothing in Lean hashes anything: it is a label: what it is worth is what the hold of that sum in a sandbox is worth. -/
noncomputable def Tryd.pinned : Pinned := { name := "ytdcaafldnbcdkaadoor", sum := "cedd8baaf21ae12bc105098a70f9cb36f38fc3e2ba3aa21d2f6d008572cc3607", checked := Tryd.checked }
namespace Rows
def none {H : Type} : Left H := { results := [], args := [] }

/- WHAT THE LISTED PACKAGE-LEVEL VARIABLES READ AS WHEN THE CALL BEGINS. Each datum BY PROGRAM (the guide's laid-datum.mjs) off the statement by which the dump's own 'gosem.cut.vars' lays the variable. In a bare row this is a premise. The card (YtdcaafldnbcdkaaDoorCards.lean) ties it to the program's text. -/
def laid_larch_class_kinds {H : Type} : DataW H := .agg [.lit (.int .i64 0), .lit (.int .i64 1), .lit (.int .i64 4), .lit (.int .i64 5), .lit (.int .i64 7)]

/-- 'larchlaw08.ClassFinds': WHATEVER THE INPUT: true; the input reads as it did. -/
def classFindsSpec : ChangeSpec := { name := "classFinds", fn := fun _ => fun
  | [d1, d2, d3] => { results := [.lit (.bool true)], args := [d1, d2, d3] }
  | _ => none }
def classFindsRow : OpenClaim := { program := "ytdcaafldnbcdkaadoor", sum := "cedd8baaf21ae12bc105098a70f9cb36f38fc3e2ba3aa21d2f6d008572cc3607", func := "larch/larchlaw08.ClassFinds", spec := "classFinds", unfollowed := true, recurses := true, named := ["larch/class.kinds"], apart := false, laid := [("larch/class.kinds", laid_larch_class_kinds)] }
def ClassFindsSaid : Prop := classFindsRow.holds Tryd.pinned (OpenSpec.ofChange classFindsSpec)

/-- ITS FALSE NEIGHBOUR: 'it returns false'. Refute it at one input. -/
def classFindsWrong : ChangeSpec := { name := "classFinds", fn := fun _ => fun
  | [d1, d2, d3] => { results := [.lit (.bool false)], args := [d1, d2, d3] }
  | _ => none }
def ClassFindsWrongFalsely : Prop := classFindsRow.holds Tryd.pinned (OpenSpec.ofChange classFindsWrong)

/-- 'larchlaw08.ClassCopies': WHATEVER THE INPUT: true; the input reads as it did. -/
def classCopiesSpec : ChangeSpec := { name := "classCopies", fn := fun _ => fun
  | [d] => { results := [.lit (.bool true)], args := [d] }
  | _ => none }
def classCopiesRow : OpenClaim := { program := "ytdcaafldnbcdkaadoor", sum := "cedd8baaf21ae12bc105098a70f9cb36f38fc3e2ba3aa21d2f6d008572cc3607", func := "larch/larchlaw08.ClassCopies", spec := "classCopies", unfollowed := true, recurses := true, named := ["larch/class.kinds"], apart := false, laid := [("larch/class.kinds", laid_larch_class_kinds)] }
def ClassCopiesSaid : Prop := classCopiesRow.holds Tryd.pinned (OpenSpec.ofChange classCopiesSpec)

/-- ITS FALSE NEIGHBOUR: 'it returns false'. Refute it at one input. -/
def classCopiesWrong : ChangeSpec := { name := "classCopies", fn := fun _ => fun
  | [d] => { results := [.lit (.bool false)], args := [d] }
  | _ => none }
def ClassCopiesWrongFalsely : Prop := classCopiesRow.holds Tryd.pinned (OpenSpec.ofChange classCopiesWrong)

/-- 'larchlaw08.ClassPrints': WHATEVER THE INPUT: true; the input reads as it did. -/
def classPrintsSpec : ChangeSpec := { name := "classPrints", fn := fun _ => fun
  | [d] => { results := [.lit (.bool true)], args := [d] }
  | _ => none }
def classPrintsRow : OpenClaim := { program := "ytdcaafldnbcdkaadoor", sum := "cedd8baaf21ae12bc105098a70f9cb36f38fc3e2ba3aa21d2f6d008572cc3607", func := "larch/larchlaw08.ClassPrints", spec := "classPrints", unfollowed := true, recurses := true, named := ["larch/class.kinds"], apart := false, laid := [("larch/class.kinds", laid_larch_class_kinds)] }
def ClassPrintsSaid : Prop := classPrintsRow.holds Tryd.pinned (OpenSpec.ofChange classPrintsSpec)

/-- ITS FALSE NEIGHBOUR: 'it returns false'. Refute it at one input. -/
def classPrintsWrong : ChangeSpec := { name := "classPrints", fn := fun _ => fun
  | [d] => { results := [.lit (.bool false)], args := [d] }
  | _ => none }
def ClassPrintsWrongFalsely : Prop := classPrintsRow.holds Tryd.pinned (OpenSpec.ofChange classPrintsWrong)

/-- 'larchlaw08.ClassBack': WHATEVER THE INPUT: true; the input reads as it did. -/
def classBackSpec : ChangeSpec := { name := "classBack", fn := fun _ => fun
  | [d1, d2] => { results := [.lit (.bool true)], args := [d1, d2] }
  | _ => none }
def classBackRow : OpenClaim := { program := "ytdcaafldnbcdkaadoor", sum := "cedd8baaf21ae12bc105098a70f9cb36f38fc3e2ba3aa21d2f6d008572cc3607", func := "larch/larchlaw08.ClassBack", spec := "classBack", unfollowed := true, recurses := true, named := ["larch/class.kinds"], apart := false, laid := [("larch/class.kinds", laid_larch_class_kinds)] }
def ClassBackSaid : Prop := classBackRow.holds Tryd.pinned (OpenSpec.ofChange classBackSpec)

/-- ITS FALSE NEIGHBOUR: 'it returns false'. Refute it at one input. -/
def classBackWrong : ChangeSpec := { name := "classBack", fn := fun _ => fun
  | [d1, d2] => { results := [.lit (.bool false)], args := [d1, d2] }
  | _ => none }
def ClassBackWrongFalsely : Prop := classBackRow.holds Tryd.pinned (OpenSpec.ofChange classBackWrong)

/-- 'larchlaw08.ClassCuts': WHATEVER THE INPUT: true; the input reads as it did. -/
def classCutsSpec : ChangeSpec := { name := "classCuts", fn := fun _ => fun
  | [d1, d2, d3] => { results := [.lit (.bool true)], args := [d1, d2, d3] }
  | _ => none }
def classCutsRow : OpenClaim := { program := "ytdcaafldnbcdkaadoor", sum := "cedd8baaf21ae12bc105098a70f9cb36f38fc3e2ba3aa21d2f6d008572cc3607", func := "larch/larchlaw08.ClassCuts", spec := "classCuts", unfollowed := true, recurses := true, named := ["larch/class.kinds"], apart := false, laid := [("larch/class.kinds", laid_larch_class_kinds)] }
def ClassCutsSaid : Prop := classCutsRow.holds Tryd.pinned (OpenSpec.ofChange classCutsSpec)

/-- ITS FALSE NEIGHBOUR: 'it returns false'. Refute it at one input. -/
def classCutsWrong : ChangeSpec := { name := "classCuts", fn := fun _ => fun
  | [d1, d2, d3] => { results := [.lit (.bool false)], args := [d1, d2, d3] }
  | _ => none }
def ClassCutsWrongFalsely : Prop := classCutsRow.holds Tryd.pinned (OpenSpec.ofChange classCutsWrong)

/- THE SECOND FORM. 'bulk': how many values and letters a reading holds, each counted each time it is reached (what is shared counts as often as it is met; a slice's spare places count too). A statement '..UptoSaid' is the law's where the arguments, and the package variables that the reading takes, are together of bulk at most 1048576: NARROWER than '..Said'. Prove '..Said' where nothing that the law and all that it calls make is longer than what came in: it says more and counts as full. Else prove '..UptoSaid'. A law counts once. -/
mutual
def uptoBulk {H : Type} : DataW H → Nat
  | .lit (.string bytes) => bytes.length + 1
  | .lit _ => 1
  | .nil => 1
  | .ptr d => uptoBulk d + 1
  | .slice elems spare => uptoBulkAll elems + uptoBulkAll spare + 1
  | .agg parts => uptoBulkAll parts + 1
  | .iface _ d => uptoBulk d + 1
  | .map entries => uptoBulkEntries entries + 1
  | .held _ => 1
def uptoBulkAll {H : Type} : List (DataW H) → Nat
  | [] => 0
  | d :: r => uptoBulk d + uptoBulkAll r
def uptoBulkEntries {H : Type} : List (Lit × DataW H) → Nat
  | [] => 0
  | x :: r => uptoBulkEntry x + uptoBulkEntries r
def uptoBulkEntry {H : Type} : Lit × DataW H → Nat
  | (.string bytes, d) => bytes.length + uptoBulk d + 1
  | (_, d) => uptoBulk d + 1
 end
def uptoSmall : (H : Type) → List (DataW H) → Bool := fun _ ds => decide (uptoBulkAll ds ≤ 1048576)
def OpenSpec.upto (s : _root_.Go.ChangeSpec) : _root_.Go.OpenSpec := { _root_.Go.OpenSpec.ofChange s with cond := some uptoSmall }

/-- 'larchlaw08.ClassFinds', WHERE WHAT IT READS IS OF BULK AT MOST 1048576: true; the input reads as it did. -/
def classFindsUptoRow : OpenClaim := { program := "ytdcaafldnbcdkaadoor", sum := "cedd8baaf21ae12bc105098a70f9cb36f38fc3e2ba3aa21d2f6d008572cc3607", func := "larch/larchlaw08.ClassFinds", spec := "classFinds", unfollowed := true, recurses := true, named := ["larch/class.kinds"], apart := false, laid := [("larch/class.kinds", laid_larch_class_kinds)], narrowed := true }
def ClassFindsUptoSaid : Prop := classFindsUptoRow.holds Tryd.pinned (OpenSpec.upto classFindsSpec)

/-- 'larchlaw08.ClassCopies', WHERE WHAT IT READS IS OF BULK AT MOST 1048576: true; the input reads as it did. -/
def classCopiesUptoRow : OpenClaim := { program := "ytdcaafldnbcdkaadoor", sum := "cedd8baaf21ae12bc105098a70f9cb36f38fc3e2ba3aa21d2f6d008572cc3607", func := "larch/larchlaw08.ClassCopies", spec := "classCopies", unfollowed := true, recurses := true, named := ["larch/class.kinds"], apart := false, laid := [("larch/class.kinds", laid_larch_class_kinds)], narrowed := true }
def ClassCopiesUptoSaid : Prop := classCopiesUptoRow.holds Tryd.pinned (OpenSpec.upto classCopiesSpec)

/-- 'larchlaw08.ClassPrints', WHERE WHAT IT READS IS OF BULK AT MOST 1048576: true; the input reads as it did. -/
def classPrintsUptoRow : OpenClaim := { program := "ytdcaafldnbcdkaadoor", sum := "cedd8baaf21ae12bc105098a70f9cb36f38fc3e2ba3aa21d2f6d008572cc3607", func := "larch/larchlaw08.ClassPrints", spec := "classPrints", unfollowed := true, recurses := true, named := ["larch/class.kinds"], apart := false, laid := [("larch/class.kinds", laid_larch_class_kinds)], narrowed := true }
def ClassPrintsUptoSaid : Prop := classPrintsUptoRow.holds Tryd.pinned (OpenSpec.upto classPrintsSpec)

/-- 'larchlaw08.ClassBack', WHERE WHAT IT READS IS OF BULK AT MOST 1048576: true; the input reads as it did. -/
def classBackUptoRow : OpenClaim := { program := "ytdcaafldnbcdkaadoor", sum := "cedd8baaf21ae12bc105098a70f9cb36f38fc3e2ba3aa21d2f6d008572cc3607", func := "larch/larchlaw08.ClassBack", spec := "classBack", unfollowed := true, recurses := true, named := ["larch/class.kinds"], apart := false, laid := [("larch/class.kinds", laid_larch_class_kinds)], narrowed := true }
def ClassBackUptoSaid : Prop := classBackUptoRow.holds Tryd.pinned (OpenSpec.upto classBackSpec)

/-- 'larchlaw08.ClassCuts', WHERE WHAT IT READS IS OF BULK AT MOST 1048576: true; the input reads as it did. -/
def classCutsUptoRow : OpenClaim := { program := "ytdcaafldnbcdkaadoor", sum := "cedd8baaf21ae12bc105098a70f9cb36f38fc3e2ba3aa21d2f6d008572cc3607", func := "larch/larchlaw08.ClassCuts", spec := "classCuts", unfollowed := true, recurses := true, named := ["larch/class.kinds"], apart := false, laid := [("larch/class.kinds", laid_larch_class_kinds)], narrowed := true }
def ClassCutsUptoSaid : Prop := classCutsUptoRow.holds Tryd.pinned (OpenSpec.upto classCutsSpec)

end Rows
end Go.Proofs.YtdcaafldnbcdkaaDoor
