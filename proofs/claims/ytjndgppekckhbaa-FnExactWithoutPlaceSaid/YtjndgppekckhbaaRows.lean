/-
  No cell of these rows narrows 'for every input' (looked for: loops, veiled, ifaces, maps, wideKeys, modest, calm, conditions, laid).
  DERIVED. THE GIVEN ROWS OF THIS SEAT. 12 by the template 'for every input the law returns true; each argument reads behind the call as it read before'; 0 by the template 'total and deterministic' (their statements: YtjndgppekckhbaaTotals.lean).
  GIVEN WITH THE SEED: the statements are not yours to turn. If you find one false, say at which input.
  Laid BY PROGRAM, IN A SANDBOX (cutbox-rows.mjs): the forced cells as the released guide's own fill.sh prints them over the translation 56d96cbbb45d8ec2… (all of the seat's roots in one cut). By AI agents, Wed Nov 11 2026. No macro, syntax, notation, axiom, sorry.
-/
import Derived.Test.YtjndgppekckhbaaChecked
import GoSem.Claim
import GoSem.ClaimJoined
import GoSem.ClaimMapViews
import Derived.JoinedTies
import Derived.KernelRfl
namespace Go.Proofs.Ytjndgppekckhbaa
/- THE CELL 'sum', in the pinned program and in every row, IS THE sha256 OF THE DUMP (.gsa) THAT YtjndgppekckhbaaProg.lean LOADS. Nothing in Lean hashes anything: it is a label: what it is worth is what the hold of that sum in a sandbox is worth. -/
noncomputable def Try.pinned : Pinned := { name := "ytjndgppekckhbaa", sum := "56d96cbbb45d8ec2b2481dd124e12031e4aeb14ba84367986fcb98908a6550d5", checked := Try.checked }
namespace Rows
def none {H : Type} : Left H := { results := [], args := [] }

/-- 'laws.FnExactPatternOf': WHATEVER THE INPUT: true; the input reads as it did. -/
def fnExactPatternOfSpec : ChangeSpec := { name := "fnExactPatternOf", fn := fun _ => fun
  | [d] => { results := [.lit (.bool true)], args := [d] }
  | _ => none }
def fnExactPatternOfRow : OpenClaim := { program := "ytjndgppekckhbaa", sum := "56d96cbbb45d8ec2b2481dd124e12031e4aeb14ba84367986fcb98908a6550d5", func := "loop.example/g03101/laws.FnExactPatternOf", spec := "fnExactPatternOf", apart := false }
def FnExactPatternOfSaid : Prop := fnExactPatternOfRow.holds Try.pinned (OpenSpec.ofChange fnExactPatternOfSpec)

/-- ITS FALSE NEIGHBOUR: 'it returns false'. Refute it at one input. -/
def fnExactPatternOfWrong : ChangeSpec := { name := "fnExactPatternOf", fn := fun _ => fun
  | [d] => { results := [.lit (.bool false)], args := [d] }
  | _ => none }
def FnExactPatternOfWrongFalsely : Prop := fnExactPatternOfRow.holds Try.pinned (OpenSpec.ofChange fnExactPatternOfWrong)

/-- 'laws.FnExactBeforePerm': WHATEVER THE INPUT: true; the input reads as it did. -/
def fnExactBeforePermSpec : ChangeSpec := { name := "fnExactBeforePerm", fn := fun _ => fun
  | [d1, d2] => { results := [.lit (.bool true)], args := [d1, d2] }
  | _ => none }
def fnExactBeforePermRow : OpenClaim := { program := "ytjndgppekckhbaa", sum := "56d96cbbb45d8ec2b2481dd124e12031e4aeb14ba84367986fcb98908a6550d5", func := "loop.example/g03101/laws.FnExactBeforePerm", spec := "fnExactBeforePerm", apart := false }
def FnExactBeforePermSaid : Prop := fnExactBeforePermRow.holds Try.pinned (OpenSpec.ofChange fnExactBeforePermSpec)

/-- ITS FALSE NEIGHBOUR: 'it returns false'. Refute it at one input. -/
def fnExactBeforePermWrong : ChangeSpec := { name := "fnExactBeforePerm", fn := fun _ => fun
  | [d1, d2] => { results := [.lit (.bool false)], args := [d1, d2] }
  | _ => none }
def FnExactBeforePermWrongFalsely : Prop := fnExactBeforePermRow.holds Try.pinned (OpenSpec.ofChange fnExactBeforePermWrong)

/-- 'laws.FnExactHasPattern': WHATEVER THE INPUT: true; the input reads as it did. -/
def fnExactHasPatternSpec : ChangeSpec := { name := "fnExactHasPattern", fn := fun _ => fun
  | [d1, d2] => { results := [.lit (.bool true)], args := [d1, d2] }
  | _ => none }
def fnExactHasPatternRow : OpenClaim := { program := "ytjndgppekckhbaa", sum := "56d96cbbb45d8ec2b2481dd124e12031e4aeb14ba84367986fcb98908a6550d5", func := "loop.example/g03101/laws.FnExactHasPattern", spec := "fnExactHasPattern", recurses := true, apart := false }
def FnExactHasPatternSaid : Prop := fnExactHasPatternRow.holds Try.pinned (OpenSpec.ofChange fnExactHasPatternSpec)

/-- ITS FALSE NEIGHBOUR: 'it returns false'. Refute it at one input. -/
def fnExactHasPatternWrong : ChangeSpec := { name := "fnExactHasPattern", fn := fun _ => fun
  | [d1, d2] => { results := [.lit (.bool false)], args := [d1, d2] }
  | _ => none }
def FnExactHasPatternWrongFalsely : Prop := fnExactHasPatternRow.holds Try.pinned (OpenSpec.ofChange fnExactHasPatternWrong)

/-- 'laws.FnExactIsSimple': WHATEVER THE INPUT: true; the input reads as it did. -/
def fnExactIsSimpleSpec : ChangeSpec := { name := "fnExactIsSimple", fn := fun _ => fun
  | [d] => { results := [.lit (.bool true)], args := [d] }
  | _ => none }
def fnExactIsSimpleRow : OpenClaim := { program := "ytjndgppekckhbaa", sum := "56d96cbbb45d8ec2b2481dd124e12031e4aeb14ba84367986fcb98908a6550d5", func := "loop.example/g03101/laws.FnExactIsSimple", spec := "fnExactIsSimple", apart := false }
def FnExactIsSimpleSaid : Prop := fnExactIsSimpleRow.holds Try.pinned (OpenSpec.ofChange fnExactIsSimpleSpec)

/-- ITS FALSE NEIGHBOUR: 'it returns false'. Refute it at one input. -/
def fnExactIsSimpleWrong : ChangeSpec := { name := "fnExactIsSimple", fn := fun _ => fun
  | [d] => { results := [.lit (.bool false)], args := [d] }
  | _ => none }
def FnExactIsSimpleWrongFalsely : Prop := fnExactIsSimpleRow.holds Try.pinned (OpenSpec.ofChange fnExactIsSimpleWrong)

/-- 'laws.FnExactEqualInflation': WHATEVER THE INPUT: true; the input reads as it did. -/
def fnExactEqualInflationSpec : ChangeSpec := { name := "fnExactEqualInflation", fn := fun _ => fun
  | [d1, d2] => { results := [.lit (.bool true)], args := [d1, d2] }
  | _ => none }
def fnExactEqualInflationRow : OpenClaim := { program := "ytjndgppekckhbaa", sum := "56d96cbbb45d8ec2b2481dd124e12031e4aeb14ba84367986fcb98908a6550d5", func := "loop.example/g03101/laws.FnExactEqualInflation", spec := "fnExactEqualInflation", unfollowed := true, recurses := true, apart := false }
def FnExactEqualInflationSaid : Prop := fnExactEqualInflationRow.holds Try.pinned (OpenSpec.ofChange fnExactEqualInflationSpec)

/-- ITS FALSE NEIGHBOUR: 'it returns false'. Refute it at one input. -/
def fnExactEqualInflationWrong : ChangeSpec := { name := "fnExactEqualInflation", fn := fun _ => fun
  | [d1, d2] => { results := [.lit (.bool false)], args := [d1, d2] }
  | _ => none }
def FnExactEqualInflationWrongFalsely : Prop := fnExactEqualInflationRow.holds Try.pinned (OpenSpec.ofChange fnExactEqualInflationWrong)

/-- 'laws.FnExactWithoutPlace': WHATEVER THE INPUT: true; the input reads as it did. -/
def fnExactWithoutPlaceSpec : ChangeSpec := { name := "fnExactWithoutPlace", fn := fun _ => fun
  | [d1, d2] => { results := [.lit (.bool true)], args := [d1, d2] }
  | _ => none }
def fnExactWithoutPlaceRow : OpenClaim := { program := "ytjndgppekckhbaa", sum := "56d96cbbb45d8ec2b2481dd124e12031e4aeb14ba84367986fcb98908a6550d5", func := "loop.example/g03101/laws.FnExactWithoutPlace", spec := "fnExactWithoutPlace", apart := false }
def FnExactWithoutPlaceSaid : Prop := fnExactWithoutPlaceRow.holds Try.pinned (OpenSpec.ofChange fnExactWithoutPlaceSpec)

/-- ITS FALSE NEIGHBOUR: 'it returns false'. Refute it at one input. -/
def fnExactWithoutPlaceWrong : ChangeSpec := { name := "fnExactWithoutPlace", fn := fun _ => fun
  | [d1, d2] => { results := [.lit (.bool false)], args := [d1, d2] }
  | _ => none }
def FnExactWithoutPlaceWrongFalsely : Prop := fnExactWithoutPlaceRow.holds Try.pinned (OpenSpec.ofChange fnExactWithoutPlaceWrong)

/-- 'laws.FnExactIsOccurrence': WHATEVER THE INPUT: true; the input reads as it did. -/
def fnExactIsOccurrenceSpec : ChangeSpec := { name := "fnExactIsOccurrence", fn := fun _ => fun
  | [d1, d2, d3] => { results := [.lit (.bool true)], args := [d1, d2, d3] }
  | _ => none }
def fnExactIsOccurrenceRow : OpenClaim := { program := "ytjndgppekckhbaa", sum := "56d96cbbb45d8ec2b2481dd124e12031e4aeb14ba84367986fcb98908a6550d5", func := "loop.example/g03101/laws.FnExactIsOccurrence", spec := "fnExactIsOccurrence", apart := false }
def FnExactIsOccurrenceSaid : Prop := fnExactIsOccurrenceRow.holds Try.pinned (OpenSpec.ofChange fnExactIsOccurrenceSpec)

/-- ITS FALSE NEIGHBOUR: 'it returns false'. Refute it at one input. -/
def fnExactIsOccurrenceWrong : ChangeSpec := { name := "fnExactIsOccurrence", fn := fun _ => fun
  | [d1, d2, d3] => { results := [.lit (.bool false)], args := [d1, d2, d3] }
  | _ => none }
def FnExactIsOccurrenceWrongFalsely : Prop := fnExactIsOccurrenceRow.holds Try.pinned (OpenSpec.ofChange fnExactIsOccurrenceWrong)

/-- 'laws.FnExactCountIntervals': WHATEVER THE INPUT: true; the input reads as it did. -/
def fnExactCountIntervalsSpec : ChangeSpec := { name := "fnExactCountIntervals", fn := fun _ => fun
  | [d] => { results := [.lit (.bool true)], args := [d] }
  | _ => none }
def fnExactCountIntervalsRow : OpenClaim := { program := "ytjndgppekckhbaa", sum := "56d96cbbb45d8ec2b2481dd124e12031e4aeb14ba84367986fcb98908a6550d5", func := "loop.example/g03101/laws.FnExactCountIntervals", spec := "fnExactCountIntervals", apart := false }
def FnExactCountIntervalsSaid : Prop := fnExactCountIntervalsRow.holds Try.pinned (OpenSpec.ofChange fnExactCountIntervalsSpec)

/-- ITS FALSE NEIGHBOUR: 'it returns false'. Refute it at one input. -/
def fnExactCountIntervalsWrong : ChangeSpec := { name := "fnExactCountIntervals", fn := fun _ => fun
  | [d] => { results := [.lit (.bool false)], args := [d] }
  | _ => none }
def FnExactCountIntervalsWrongFalsely : Prop := fnExactCountIntervalsRow.holds Try.pinned (OpenSpec.ofChange fnExactCountIntervalsWrong)

/-- 'laws.FnExactSkewSumOf': WHATEVER THE INPUT: true; the input reads as it did. -/
def fnExactSkewSumOfSpec : ChangeSpec := { name := "fnExactSkewSumOf", fn := fun _ => fun
  | [d1, d2] => { results := [.lit (.bool true)], args := [d1, d2] }
  | _ => none }
def fnExactSkewSumOfRow : OpenClaim := { program := "ytjndgppekckhbaa", sum := "56d96cbbb45d8ec2b2481dd124e12031e4aeb14ba84367986fcb98908a6550d5", func := "loop.example/g03101/laws.FnExactSkewSumOf", spec := "fnExactSkewSumOf", apart := false }
def FnExactSkewSumOfSaid : Prop := fnExactSkewSumOfRow.holds Try.pinned (OpenSpec.ofChange fnExactSkewSumOfSpec)

/-- ITS FALSE NEIGHBOUR: 'it returns false'. Refute it at one input. -/
def fnExactSkewSumOfWrong : ChangeSpec := { name := "fnExactSkewSumOf", fn := fun _ => fun
  | [d1, d2] => { results := [.lit (.bool false)], args := [d1, d2] }
  | _ => none }
def FnExactSkewSumOfWrongFalsely : Prop := fnExactSkewSumOfRow.holds Try.pinned (OpenSpec.ofChange fnExactSkewSumOfWrong)

/-- 'laws.FnExactSumOf': WHATEVER THE INPUT: true; the input reads as it did. -/
def fnExactSumOfSpec : ChangeSpec := { name := "fnExactSumOf", fn := fun _ => fun
  | [d1, d2] => { results := [.lit (.bool true)], args := [d1, d2] }
  | _ => none }
def fnExactSumOfRow : OpenClaim := { program := "ytjndgppekckhbaa", sum := "56d96cbbb45d8ec2b2481dd124e12031e4aeb14ba84367986fcb98908a6550d5", func := "loop.example/g03101/laws.FnExactSumOf", spec := "fnExactSumOf", apart := false }
def FnExactSumOfSaid : Prop := fnExactSumOfRow.holds Try.pinned (OpenSpec.ofChange fnExactSumOfSpec)

/-- ITS FALSE NEIGHBOUR: 'it returns false'. Refute it at one input. -/
def fnExactSumOfWrong : ChangeSpec := { name := "fnExactSumOf", fn := fun _ => fun
  | [d1, d2] => { results := [.lit (.bool false)], args := [d1, d2] }
  | _ => none }
def FnExactSumOfWrongFalsely : Prop := fnExactSumOfRow.holds Try.pinned (OpenSpec.ofChange fnExactSumOfWrong)

/-- 'laws.FnExactClosureOf': WHATEVER THE INPUT: true; the input reads as it did. -/
def fnExactClosureOfSpec : ChangeSpec := { name := "fnExactClosureOf", fn := fun _ => fun
  | [d1, d2, d3] => { results := [.lit (.bool true)], args := [d1, d2, d3] }
  | _ => none }
def fnExactClosureOfRow : OpenClaim := { program := "ytjndgppekckhbaa", sum := "56d96cbbb45d8ec2b2481dd124e12031e4aeb14ba84367986fcb98908a6550d5", func := "loop.example/g03101/laws.FnExactClosureOf", spec := "fnExactClosureOf", apart := false }
def FnExactClosureOfSaid : Prop := fnExactClosureOfRow.holds Try.pinned (OpenSpec.ofChange fnExactClosureOfSpec)

/-- ITS FALSE NEIGHBOUR: 'it returns false'. Refute it at one input. -/
def fnExactClosureOfWrong : ChangeSpec := { name := "fnExactClosureOf", fn := fun _ => fun
  | [d1, d2, d3] => { results := [.lit (.bool false)], args := [d1, d2, d3] }
  | _ => none }
def FnExactClosureOfWrongFalsely : Prop := fnExactClosureOfRow.holds Try.pinned (OpenSpec.ofChange fnExactClosureOfWrong)

/-- 'laws.FnExactSymmetryOf': WHATEVER THE INPUT: true; the input reads as it did. -/
def fnExactSymmetryOfSpec : ChangeSpec := { name := "fnExactSymmetryOf", fn := fun _ => fun
  | [d1, d2] => { results := [.lit (.bool true)], args := [d1, d2] }
  | _ => none }
def fnExactSymmetryOfRow : OpenClaim := { program := "ytjndgppekckhbaa", sum := "56d96cbbb45d8ec2b2481dd124e12031e4aeb14ba84367986fcb98908a6550d5", func := "loop.example/g03101/laws.FnExactSymmetryOf", spec := "fnExactSymmetryOf", apart := false }
def FnExactSymmetryOfSaid : Prop := fnExactSymmetryOfRow.holds Try.pinned (OpenSpec.ofChange fnExactSymmetryOfSpec)

/-- ITS FALSE NEIGHBOUR: 'it returns false'. Refute it at one input. -/
def fnExactSymmetryOfWrong : ChangeSpec := { name := "fnExactSymmetryOf", fn := fun _ => fun
  | [d1, d2] => { results := [.lit (.bool false)], args := [d1, d2] }
  | _ => none }
def FnExactSymmetryOfWrongFalsely : Prop := fnExactSymmetryOfRow.holds Try.pinned (OpenSpec.ofChange fnExactSymmetryOfWrong)

/- THE SECOND FORM. 'bulk': how many values and letters a reading holds, each counted each time it is reached (what is shared counts as often as it is met; a slice's spare places count too). A statement '..UptoSaid' is the law's where the arguments, and the package variables that the reading takes, are together of bulk at most 1048576: NARROWER than '..Said'. Prove '..Said' where nothing that the law and all that it calls make is longer than what came in: it says more and counts as full. Else prove '..UptoSaid'. A law counts once. -/
mutual
def uptoBulk {H : Type} : DataW H → Nat
  | .lit (.string bytes) => bytes.length + 1
  | .lit _ => 1
  | .nil => 1
  | .ptr d => uptoBulk d + 1
  | .slice elems spare => uptoBulkAll elems + uptoBulkAll spare + 1
  | .agg parts => uptoBulkAll parts + 1
  | .iface _ d => uptoBulk d + 1
  | .map entries => uptoBulkEntries entries + 1
  | .held _ => 1
def uptoBulkAll {H : Type} : List (DataW H) → Nat
  | [] => 0
  | d :: r => uptoBulk d + uptoBulkAll r
def uptoBulkEntries {H : Type} : List (Lit × DataW H) → Nat
  | [] => 0
  | x :: r => uptoBulkEntry x + uptoBulkEntries r
def uptoBulkEntry {H : Type} : Lit × DataW H → Nat
  | (.string bytes, d) => bytes.length + uptoBulk d + 1
  | (_, d) => uptoBulk d + 1
 end
def uptoSmall : (H : Type) → List (DataW H) → Bool := fun _ ds => decide (uptoBulkAll ds ≤ 1048576)
def OpenSpec.upto (s : _root_.Go.ChangeSpec) : _root_.Go.OpenSpec := { _root_.Go.OpenSpec.ofChange s with cond := some uptoSmall }

/-- 'laws.FnExactPatternOf', WHERE WHAT IT READS IS OF BULK AT MOST 1048576: true; the input reads as it did. -/
def fnExactPatternOfUptoRow : OpenClaim := { program := "ytjndgppekckhbaa", sum := "56d96cbbb45d8ec2b2481dd124e12031e4aeb14ba84367986fcb98908a6550d5", func := "loop.example/g03101/laws.FnExactPatternOf", spec := "fnExactPatternOf", apart := false, narrowed := true }
def FnExactPatternOfUptoSaid : Prop := fnExactPatternOfUptoRow.holds Try.pinned (OpenSpec.upto fnExactPatternOfSpec)

/-- 'laws.FnExactBeforePerm', WHERE WHAT IT READS IS OF BULK AT MOST 1048576: true; the input reads as it did. -/
def fnExactBeforePermUptoRow : OpenClaim := { program := "ytjndgppekckhbaa", sum := "56d96cbbb45d8ec2b2481dd124e12031e4aeb14ba84367986fcb98908a6550d5", func := "loop.example/g03101/laws.FnExactBeforePerm", spec := "fnExactBeforePerm", apart := false, narrowed := true }
def FnExactBeforePermUptoSaid : Prop := fnExactBeforePermUptoRow.holds Try.pinned (OpenSpec.upto fnExactBeforePermSpec)

/-- 'laws.FnExactHasPattern', WHERE WHAT IT READS IS OF BULK AT MOST 1048576: true; the input reads as it did. -/
def fnExactHasPatternUptoRow : OpenClaim := { program := "ytjndgppekckhbaa", sum := "56d96cbbb45d8ec2b2481dd124e12031e4aeb14ba84367986fcb98908a6550d5", func := "loop.example/g03101/laws.FnExactHasPattern", spec := "fnExactHasPattern", recurses := true, apart := false, narrowed := true }
def FnExactHasPatternUptoSaid : Prop := fnExactHasPatternUptoRow.holds Try.pinned (OpenSpec.upto fnExactHasPatternSpec)

/-- 'laws.FnExactIsSimple', WHERE WHAT IT READS IS OF BULK AT MOST 1048576: true; the input reads as it did. -/
def fnExactIsSimpleUptoRow : OpenClaim := { program := "ytjndgppekckhbaa", sum := "56d96cbbb45d8ec2b2481dd124e12031e4aeb14ba84367986fcb98908a6550d5", func := "loop.example/g03101/laws.FnExactIsSimple", spec := "fnExactIsSimple", apart := false, narrowed := true }
def FnExactIsSimpleUptoSaid : Prop := fnExactIsSimpleUptoRow.holds Try.pinned (OpenSpec.upto fnExactIsSimpleSpec)

/-- 'laws.FnExactEqualInflation', WHERE WHAT IT READS IS OF BULK AT MOST 1048576: true; the input reads as it did. -/
def fnExactEqualInflationUptoRow : OpenClaim := { program := "ytjndgppekckhbaa", sum := "56d96cbbb45d8ec2b2481dd124e12031e4aeb14ba84367986fcb98908a6550d5", func := "loop.example/g03101/laws.FnExactEqualInflation", spec := "fnExactEqualInflation", unfollowed := true, recurses := true, apart := false, narrowed := true }
def FnExactEqualInflationUptoSaid : Prop := fnExactEqualInflationUptoRow.holds Try.pinned (OpenSpec.upto fnExactEqualInflationSpec)

/-- 'laws.FnExactWithoutPlace', WHERE WHAT IT READS IS OF BULK AT MOST 1048576: true; the input reads as it did. -/
def fnExactWithoutPlaceUptoRow : OpenClaim := { program := "ytjndgppekckhbaa", sum := "56d96cbbb45d8ec2b2481dd124e12031e4aeb14ba84367986fcb98908a6550d5", func := "loop.example/g03101/laws.FnExactWithoutPlace", spec := "fnExactWithoutPlace", apart := false, narrowed := true }
def FnExactWithoutPlaceUptoSaid : Prop := fnExactWithoutPlaceUptoRow.holds Try.pinned (OpenSpec.upto fnExactWithoutPlaceSpec)

/-- 'laws.FnExactIsOccurrence', WHERE WHAT IT READS IS OF BULK AT MOST 1048576: true; the input reads as it did. -/
def fnExactIsOccurrenceUptoRow : OpenClaim := { program := "ytjndgppekckhbaa", sum := "56d96cbbb45d8ec2b2481dd124e12031e4aeb14ba84367986fcb98908a6550d5", func := "loop.example/g03101/laws.FnExactIsOccurrence", spec := "fnExactIsOccurrence", apart := false, narrowed := true }
def FnExactIsOccurrenceUptoSaid : Prop := fnExactIsOccurrenceUptoRow.holds Try.pinned (OpenSpec.upto fnExactIsOccurrenceSpec)

/-- 'laws.FnExactCountIntervals', WHERE WHAT IT READS IS OF BULK AT MOST 1048576: true; the input reads as it did. -/
def fnExactCountIntervalsUptoRow : OpenClaim := { program := "ytjndgppekckhbaa", sum := "56d96cbbb45d8ec2b2481dd124e12031e4aeb14ba84367986fcb98908a6550d5", func := "loop.example/g03101/laws.FnExactCountIntervals", spec := "fnExactCountIntervals", apart := false, narrowed := true }
def FnExactCountIntervalsUptoSaid : Prop := fnExactCountIntervalsUptoRow.holds Try.pinned (OpenSpec.upto fnExactCountIntervalsSpec)

/-- 'laws.FnExactSkewSumOf', WHERE WHAT IT READS IS OF BULK AT MOST 1048576: true; the input reads as it did. -/
def fnExactSkewSumOfUptoRow : OpenClaim := { program := "ytjndgppekckhbaa", sum := "56d96cbbb45d8ec2b2481dd124e12031e4aeb14ba84367986fcb98908a6550d5", func := "loop.example/g03101/laws.FnExactSkewSumOf", spec := "fnExactSkewSumOf", apart := false, narrowed := true }
def FnExactSkewSumOfUptoSaid : Prop := fnExactSkewSumOfUptoRow.holds Try.pinned (OpenSpec.upto fnExactSkewSumOfSpec)

/-- 'laws.FnExactSumOf', WHERE WHAT IT READS IS OF BULK AT MOST 1048576: true; the input reads as it did. -/
def fnExactSumOfUptoRow : OpenClaim := { program := "ytjndgppekckhbaa", sum := "56d96cbbb45d8ec2b2481dd124e12031e4aeb14ba84367986fcb98908a6550d5", func := "loop.example/g03101/laws.FnExactSumOf", spec := "fnExactSumOf", apart := false, narrowed := true }
def FnExactSumOfUptoSaid : Prop := fnExactSumOfUptoRow.holds Try.pinned (OpenSpec.upto fnExactSumOfSpec)

/-- 'laws.FnExactClosureOf', WHERE WHAT IT READS IS OF BULK AT MOST 1048576: true; the input reads as it did. -/
def fnExactClosureOfUptoRow : OpenClaim := { program := "ytjndgppekckhbaa", sum := "56d96cbbb45d8ec2b2481dd124e12031e4aeb14ba84367986fcb98908a6550d5", func := "loop.example/g03101/laws.FnExactClosureOf", spec := "fnExactClosureOf", apart := false, narrowed := true }
def FnExactClosureOfUptoSaid : Prop := fnExactClosureOfUptoRow.holds Try.pinned (OpenSpec.upto fnExactClosureOfSpec)

/-- 'laws.FnExactSymmetryOf', WHERE WHAT IT READS IS OF BULK AT MOST 1048576: true; the input reads as it did. -/
def fnExactSymmetryOfUptoRow : OpenClaim := { program := "ytjndgppekckhbaa", sum := "56d96cbbb45d8ec2b2481dd124e12031e4aeb14ba84367986fcb98908a6550d5", func := "loop.example/g03101/laws.FnExactSymmetryOf", spec := "fnExactSymmetryOf", apart := false, narrowed := true }
def FnExactSymmetryOfUptoSaid : Prop := fnExactSymmetryOfUptoRow.holds Try.pinned (OpenSpec.upto fnExactSymmetryOfSpec)

end Rows
end Go.Proofs.Ytjndgppekckhbaa
