/-
  No cell of these rows narrows 'for every input' (looked for: loops, veiled, ifaces, maps, wideKeys, modest, calm, conditions, laid).
  DERIVED. THE GIVEN ROWS OF THIS SEAT. 6 by the template 'for every input the law returns true; each argument reads behind the call as it read before'; 0 by the template 'total and deterministic' (their statements: YtcpeekeiflglpaaTotals.lean).
  GIVEN WITH THE SEED: the statements are not yours to turn. If you find one false, say at which input.
  Laid BY PROGRAM, IN A SANDBOX (cutbox-rows.mjs): the forced cells as the released guide's own fill.sh prints them over the translation 169b9ea53450c314… (all of the seat's roots in one cut). By AI agents, Wed Nov 11 2026. No macro, syntax, notation, axiom, sorry.
-/
import Derived.Test.YtcpeekeiflglpaaChecked
import GoSem.Claim
import GoSem.ClaimJoined
import GoSem.ClaimMapViews
import Derived.JoinedTies
import Derived.KernelRfl
namespace Go.Proofs.Ytcpeekeiflglpaa
/- THE CELL 'sum', in the pinned program and in every row, IS THE sha256 OF THE DUMP (.gsa) THAT YtcpeekeiflglpaaProg.lean LOADS. Nothing in Lean hashes anything: it is a label: what it is worth is what the hold of that sum in a sandbox is worth. -/
noncomputable def Try.pinned : Pinned := { name := "ytcpeekeiflglpaa", sum := "169b9ea53450c31445c0a9d4c6b1121f911476a6809b2ddbdadb4502787ba9f5", checked := Try.checked }
namespace Rows
def none {H : Type} : Left H := { results := [], args := [] }

/-- 'larchlaw07.PoolKeeps': WHATEVER THE INPUT: true; the input reads as it did. -/
def poolKeepsSpec : ChangeSpec := { name := "poolKeeps", fn := fun _ => fun
  | [d1, d2, d3] => { results := [.lit (.bool true)], args := [d1, d2, d3] }
  | _ => none }
def poolKeepsRow : OpenClaim := { program := "ytcpeekeiflglpaa", sum := "169b9ea53450c31445c0a9d4c6b1121f911476a6809b2ddbdadb4502787ba9f5", func := "larch/larchlaw07.PoolKeeps", spec := "poolKeeps", unfollowed := true, recurses := true, plainKeys := false, apart := false }
def PoolKeepsSaid : Prop := poolKeepsRow.holds Try.pinned (OpenSpec.ofChange poolKeepsSpec)

/-- ITS FALSE NEIGHBOUR: 'it returns false'. Refute it at one input. -/
def poolKeepsWrong : ChangeSpec := { name := "poolKeeps", fn := fun _ => fun
  | [d1, d2, d3] => { results := [.lit (.bool false)], args := [d1, d2, d3] }
  | _ => none }
def PoolKeepsWrongFalsely : Prop := poolKeepsRow.holds Try.pinned (OpenSpec.ofChange poolKeepsWrong)

/-- 'larchlaw07.PoolMeans': WHATEVER THE INPUT: true; the input reads as it did. -/
def poolMeansSpec : ChangeSpec := { name := "poolMeans", fn := fun _ => fun
  | [d1, d2] => { results := [.lit (.bool true)], args := [d1, d2] }
  | _ => none }
def poolMeansRow : OpenClaim := { program := "ytcpeekeiflglpaa", sum := "169b9ea53450c31445c0a9d4c6b1121f911476a6809b2ddbdadb4502787ba9f5", func := "larch/larchlaw07.PoolMeans", spec := "poolMeans", unfollowed := true, recurses := true, plainKeys := false, apart := false }
def PoolMeansSaid : Prop := poolMeansRow.holds Try.pinned (OpenSpec.ofChange poolMeansSpec)

/-- ITS FALSE NEIGHBOUR: 'it returns false'. Refute it at one input. -/
def poolMeansWrong : ChangeSpec := { name := "poolMeans", fn := fun _ => fun
  | [d1, d2] => { results := [.lit (.bool false)], args := [d1, d2] }
  | _ => none }
def PoolMeansWrongFalsely : Prop := poolMeansRow.holds Try.pinned (OpenSpec.ofChange poolMeansWrong)

/-- 'larchlaw07.PoolBack': WHATEVER THE INPUT: true; the input reads as it did. -/
def poolBackSpec : ChangeSpec := { name := "poolBack", fn := fun _ => fun
  | [d1, d2] => { results := [.lit (.bool true)], args := [d1, d2] }
  | _ => none }
def poolBackRow : OpenClaim := { program := "ytcpeekeiflglpaa", sum := "169b9ea53450c31445c0a9d4c6b1121f911476a6809b2ddbdadb4502787ba9f5", func := "larch/larchlaw07.PoolBack", spec := "poolBack", unfollowed := true, recurses := true, plainKeys := false, apart := false }
def PoolBackSaid : Prop := poolBackRow.holds Try.pinned (OpenSpec.ofChange poolBackSpec)

/-- ITS FALSE NEIGHBOUR: 'it returns false'. Refute it at one input. -/
def poolBackWrong : ChangeSpec := { name := "poolBack", fn := fun _ => fun
  | [d1, d2] => { results := [.lit (.bool false)], args := [d1, d2] }
  | _ => none }
def PoolBackWrongFalsely : Prop := poolBackRow.holds Try.pinned (OpenSpec.ofChange poolBackWrong)

/-- 'larchlaw09.CodeDecodes': WHATEVER THE INPUT: true; the input reads as it did. -/
def codeDecodesSpec : ChangeSpec := { name := "codeDecodes", fn := fun _ => fun
  | [d] => { results := [.lit (.bool true)], args := [d] }
  | _ => none }
def codeDecodesRow : OpenClaim := { program := "ytcpeekeiflglpaa", sum := "169b9ea53450c31445c0a9d4c6b1121f911476a6809b2ddbdadb4502787ba9f5", func := "larch/larchlaw09.CodeDecodes", spec := "codeDecodes", unfollowed := true, recurses := true, plainKeys := false, apart := false }
def CodeDecodesSaid : Prop := codeDecodesRow.holds Try.pinned (OpenSpec.ofChange codeDecodesSpec)

/-- ITS FALSE NEIGHBOUR: 'it returns false'. Refute it at one input. -/
def codeDecodesWrong : ChangeSpec := { name := "codeDecodes", fn := fun _ => fun
  | [d] => { results := [.lit (.bool false)], args := [d] }
  | _ => none }
def CodeDecodesWrongFalsely : Prop := codeDecodesRow.holds Try.pinned (OpenSpec.ofChange codeDecodesWrong)

/-- 'larchlaw09.CodeBack': WHATEVER THE INPUT: true; the input reads as it did. -/
def codeBackSpec : ChangeSpec := { name := "codeBack", fn := fun _ => fun
  | [d1, d2] => { results := [.lit (.bool true)], args := [d1, d2] }
  | _ => none }
def codeBackRow : OpenClaim := { program := "ytcpeekeiflglpaa", sum := "169b9ea53450c31445c0a9d4c6b1121f911476a6809b2ddbdadb4502787ba9f5", func := "larch/larchlaw09.CodeBack", spec := "codeBack", unfollowed := true, recurses := true, plainKeys := false, apart := false }
def CodeBackSaid : Prop := codeBackRow.holds Try.pinned (OpenSpec.ofChange codeBackSpec)

/-- ITS FALSE NEIGHBOUR: 'it returns false'. Refute it at one input. -/
def codeBackWrong : ChangeSpec := { name := "codeBack", fn := fun _ => fun
  | [d1, d2] => { results := [.lit (.bool false)], args := [d1, d2] }
  | _ => none }
def CodeBackWrongFalsely : Prop := codeBackRow.holds Try.pinned (OpenSpec.ofChange codeBackWrong)

/-- 'larchlaw09.CodeFronts': WHATEVER THE INPUT: true; the input reads as it did. -/
def codeFrontsSpec : ChangeSpec := { name := "codeFronts", fn := fun _ => fun
  | [d1, d2] => { results := [.lit (.bool true)], args := [d1, d2] }
  | _ => none }
def codeFrontsRow : OpenClaim := { program := "ytcpeekeiflglpaa", sum := "169b9ea53450c31445c0a9d4c6b1121f911476a6809b2ddbdadb4502787ba9f5", func := "larch/larchlaw09.CodeFronts", spec := "codeFronts", unfollowed := true, recurses := true, plainKeys := false, apart := false }
def CodeFrontsSaid : Prop := codeFrontsRow.holds Try.pinned (OpenSpec.ofChange codeFrontsSpec)

/-- ITS FALSE NEIGHBOUR: 'it returns false'. Refute it at one input. -/
def codeFrontsWrong : ChangeSpec := { name := "codeFronts", fn := fun _ => fun
  | [d1, d2] => { results := [.lit (.bool false)], args := [d1, d2] }
  | _ => none }
def CodeFrontsWrongFalsely : Prop := codeFrontsRow.holds Try.pinned (OpenSpec.ofChange codeFrontsWrong)

/- THE SECOND FORM. 'bulk': how many values and letters a reading holds, each counted each time it is reached (what is shared counts as often as it is met; a slice's spare places count too). A statement '..UptoSaid' is the law's where the arguments, and the package variables that the reading takes, are together of bulk at most 1048576: NARROWER than '..Said'. Prove '..Said' where nothing that the law and all that it calls make is longer than what came in: it says more and counts as full. Else prove '..UptoSaid'. A law counts once. -/
mutual
def uptoBulk {H : Type} : DataW H → Nat
  | .lit (.string bytes) => bytes.length + 1
  | .lit _ => 1
  | .nil => 1
  | .ptr d => uptoBulk d + 1
  | .slice elems spare => uptoBulkAll elems + uptoBulkAll spare + 1
  | .agg parts => uptoBulkAll parts + 1
  | .iface _ d => uptoBulk d + 1
  | .map entries => uptoBulkEntries entries + 1
  | .held _ => 1
def uptoBulkAll {H : Type} : List (DataW H) → Nat
  | [] => 0
  | d :: r => uptoBulk d + uptoBulkAll r
def uptoBulkEntries {H : Type} : List (Lit × DataW H) → Nat
  | [] => 0
  | x :: r => uptoBulkEntry x + uptoBulkEntries r
def uptoBulkEntry {H : Type} : Lit × DataW H → Nat
  | (.string bytes, d) => bytes.length + uptoBulk d + 1
  | (_, d) => uptoBulk d + 1
 end
def uptoSmall : (H : Type) → List (DataW H) → Bool := fun _ ds => decide (uptoBulkAll ds ≤ 1048576)
def OpenSpec.upto (s : _root_.Go.ChangeSpec) : _root_.Go.OpenSpec := { _root_.Go.OpenSpec.ofChange s with cond := some uptoSmall }

/-- 'larchlaw07.PoolKeeps', WHERE WHAT IT READS IS OF BULK AT MOST 1048576: true; the input reads as it did. -/
def poolKeepsUptoRow : OpenClaim := { program := "ytcpeekeiflglpaa", sum := "169b9ea53450c31445c0a9d4c6b1121f911476a6809b2ddbdadb4502787ba9f5", func := "larch/larchlaw07.PoolKeeps", spec := "poolKeeps", unfollowed := true, recurses := true, plainKeys := false, apart := false, narrowed := true }
def PoolKeepsUptoSaid : Prop := poolKeepsUptoRow.holds Try.pinned (OpenSpec.upto poolKeepsSpec)

/-- 'larchlaw07.PoolMeans', WHERE WHAT IT READS IS OF BULK AT MOST 1048576: true; the input reads as it did. -/
def poolMeansUptoRow : OpenClaim := { program := "ytcpeekeiflglpaa", sum := "169b9ea53450c31445c0a9d4c6b1121f911476a6809b2ddbdadb4502787ba9f5", func := "larch/larchlaw07.PoolMeans", spec := "poolMeans", unfollowed := true, recurses := true, plainKeys := false, apart := false, narrowed := true }
def PoolMeansUptoSaid : Prop := poolMeansUptoRow.holds Try.pinned (OpenSpec.upto poolMeansSpec)

/-- 'larchlaw07.PoolBack', WHERE WHAT IT READS IS OF BULK AT MOST 1048576: true; the input reads as it did. -/
def poolBackUptoRow : OpenClaim := { program := "ytcpeekeiflglpaa", sum := "169b9ea53450c31445c0a9d4c6b1121f911476a6809b2ddbdadb4502787ba9f5", func := "larch/larchlaw07.PoolBack", spec := "poolBack", unfollowed := true, recurses := true, plainKeys := false, apart := false, narrowed := true }
def PoolBackUptoSaid : Prop := poolBackUptoRow.holds Try.pinned (OpenSpec.upto poolBackSpec)

/-- 'larchlaw09.CodeDecodes', WHERE WHAT IT READS IS OF BULK AT MOST 1048576: true; the input reads as it did. -/
def codeDecodesUptoRow : OpenClaim := { program := "ytcpeekeiflglpaa", sum := "169b9ea53450c31445c0a9d4c6b1121f911476a6809b2ddbdadb4502787ba9f5", func := "larch/larchlaw09.CodeDecodes", spec := "codeDecodes", unfollowed := true, recurses := true, plainKeys := false, apart := false, narrowed := true }
def CodeDecodesUptoSaid : Prop := codeDecodesUptoRow.holds Try.pinned (OpenSpec.upto codeDecodesSpec)

/-- 'larchlaw09.CodeBack', WHERE WHAT IT READS IS OF BULK AT MOST 1048576: true; the input reads as it did. -/
def codeBackUptoRow : OpenClaim := { program := "ytcpeekeiflglpaa", sum := "169b9ea53450c31445c0a9d4c6b1121f911476a6809b2ddbdadb4502787ba9f5", func := "larch/larchlaw09.CodeBack", spec := "codeBack", unfollowed := true, recurses := true, plainKeys := false, apart := false, narrowed := true }
def CodeBackUptoSaid : Prop := codeBackUptoRow.holds Try.pinned (OpenSpec.upto codeBackSpec)

/-- 'larchlaw09.CodeFronts', WHERE WHAT IT READS IS OF BULK AT MOST 1048576: true; the input reads as it did. -/
def codeFrontsUptoRow : OpenClaim := { program := "ytcpeekeiflglpaa", sum := "169b9ea53450c31445c0a9d4c6b1121f911476a6809b2ddbdadb4502787ba9f5", func := "larch/larchlaw09.CodeFronts", spec := "codeFronts", unfollowed := true, recurses := true, plainKeys := false, apart := false, narrowed := true }
def CodeFrontsUptoSaid : Prop := codeFrontsUptoRow.holds Try.pinned (OpenSpec.upto codeFrontsSpec)

end Rows
end Go.Proofs.Ytcpeekeiflglpaa
