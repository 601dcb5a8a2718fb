/-
  No cell of these rows narrows 'for every input' (looked for: loops, veiled, ifaces, maps, wideKeys, modest, calm, conditions, laid).
  DERIVED. THE GIVEN ROWS OF THIS SEAT. 12 by the template 'for every input the law returns true; each argument reads behind the call as it read before'; 0 by the template 'total and deterministic' (their statements: YtjbdelligalmdaaTotals.lean).
  GIVEN WITH THE SEED: the statements are not yours to turn. If you find one false, say at which input.
  Laid BY PROGRAM, IN A SANDBOX (cutbox-rows.mjs): the forced cells as the released guide's own fill.sh prints them over the translation 7eb0e4c86c52b10b… (all of the seat's roots in one cut). By AI agents, Wed Nov 11 2026. No macro, syntax, notation, axiom, sorry.
-/
import Derived.Test.YtjbdelligalmdaaChecked
import GoSem.Claim
import GoSem.ClaimJoined
import GoSem.ClaimMapViews
import Derived.JoinedTies
import Derived.KernelRfl
namespace Go.Proofs.Ytjbdelligalmdaa
/- THE CELL 'sum', in the pinned program and in every row, IS THE sha256 OF THE DUMP (.gsa) THAT YtjbdelligalmdaaProg.lean LOADS. Nothing in Lean hashes anything: it is a label: what it is worth is what the hold of that sum in a sandbox is worth. -/
noncomputable def Try.pinned : Pinned := { name := "ytjbdelligalmdaa", sum := "7eb0e4c86c52b10b0408b8fce9e85160d448ac8db45c5d8167ed0052d926237f", checked := Try.checked }
namespace Rows
def none {H : Type} : Left H := { results := [], args := [] }

/-- 'laws.FnExactPermsOf': WHATEVER THE INPUT: true; the input reads as it did. -/
def fnExactPermsOfSpec : ChangeSpec := { name := "fnExactPermsOf", fn := fun _ => fun
  | [d] => { results := [.lit (.bool true)], args := [d] }
  | _ => none }
def fnExactPermsOfRow : OpenClaim := { program := "ytjbdelligalmdaa", sum := "7eb0e4c86c52b10b0408b8fce9e85160d448ac8db45c5d8167ed0052d926237f", func := "loop.example/g03101/laws.FnExactPermsOf", spec := "fnExactPermsOf", recurses := true, apart := false }
def FnExactPermsOfSaid : Prop := fnExactPermsOfRow.holds Try.pinned (OpenSpec.ofChange fnExactPermsOfSpec)

/-- ITS FALSE NEIGHBOUR: 'it returns false'. Refute it at one input. -/
def fnExactPermsOfWrong : ChangeSpec := { name := "fnExactPermsOf", fn := fun _ => fun
  | [d] => { results := [.lit (.bool false)], args := [d] }
  | _ => none }
def FnExactPermsOfWrongFalsely : Prop := fnExactPermsOfRow.holds Try.pinned (OpenSpec.ofChange fnExactPermsOfWrong)

/-- 'laws.FnExactSumParts': WHATEVER THE INPUT: true; the input reads as it did. -/
def fnExactSumPartsSpec : ChangeSpec := { name := "fnExactSumParts", fn := fun _ => fun
  | [d] => { results := [.lit (.bool true)], args := [d] }
  | _ => none }
def fnExactSumPartsRow : OpenClaim := { program := "ytjbdelligalmdaa", sum := "7eb0e4c86c52b10b0408b8fce9e85160d448ac8db45c5d8167ed0052d926237f", func := "loop.example/g03101/laws.FnExactSumParts", spec := "fnExactSumParts", apart := false }
def FnExactSumPartsSaid : Prop := fnExactSumPartsRow.holds Try.pinned (OpenSpec.ofChange fnExactSumPartsSpec)

/-- ITS FALSE NEIGHBOUR: 'it returns false'. Refute it at one input. -/
def fnExactSumPartsWrong : ChangeSpec := { name := "fnExactSumParts", fn := fun _ => fun
  | [d] => { results := [.lit (.bool false)], args := [d] }
  | _ => none }
def FnExactSumPartsWrongFalsely : Prop := fnExactSumPartsRow.holds Try.pinned (OpenSpec.ofChange fnExactSumPartsWrong)

/-- 'laws.FnExactSkewParts': WHATEVER THE INPUT: true; the input reads as it did. -/
def fnExactSkewPartsSpec : ChangeSpec := { name := "fnExactSkewParts", fn := fun _ => fun
  | [d] => { results := [.lit (.bool true)], args := [d] }
  | _ => none }
def fnExactSkewPartsRow : OpenClaim := { program := "ytjbdelligalmdaa", sum := "7eb0e4c86c52b10b0408b8fce9e85160d448ac8db45c5d8167ed0052d926237f", func := "loop.example/g03101/laws.FnExactSkewParts", spec := "fnExactSkewParts", apart := false }
def FnExactSkewPartsSaid : Prop := fnExactSkewPartsRow.holds Try.pinned (OpenSpec.ofChange fnExactSkewPartsSpec)

/-- ITS FALSE NEIGHBOUR: 'it returns false'. Refute it at one input. -/
def fnExactSkewPartsWrong : ChangeSpec := { name := "fnExactSkewParts", fn := fun _ => fun
  | [d] => { results := [.lit (.bool false)], args := [d] }
  | _ => none }
def FnExactSkewPartsWrongFalsely : Prop := fnExactSkewPartsRow.holds Try.pinned (OpenSpec.ofChange fnExactSkewPartsWrong)

/-- 'laws.FnExactIntervalsOf': WHATEVER THE INPUT: true; the input reads as it did. -/
def fnExactIntervalsOfSpec : ChangeSpec := { name := "fnExactIntervalsOf", fn := fun _ => fun
  | [d] => { results := [.lit (.bool true)], args := [d] }
  | _ => none }
def fnExactIntervalsOfRow : OpenClaim := { program := "ytjbdelligalmdaa", sum := "7eb0e4c86c52b10b0408b8fce9e85160d448ac8db45c5d8167ed0052d926237f", func := "loop.example/g03101/laws.FnExactIntervalsOf", spec := "fnExactIntervalsOf", apart := false }
def FnExactIntervalsOfSaid : Prop := fnExactIntervalsOfRow.holds Try.pinned (OpenSpec.ofChange fnExactIntervalsOfSpec)

/-- ITS FALSE NEIGHBOUR: 'it returns false'. Refute it at one input. -/
def fnExactIntervalsOfWrong : ChangeSpec := { name := "fnExactIntervalsOf", fn := fun _ => fun
  | [d] => { results := [.lit (.bool false)], args := [d] }
  | _ => none }
def FnExactIntervalsOfWrongFalsely : Prop := fnExactIntervalsOfRow.holds Try.pinned (OpenSpec.ofChange fnExactIntervalsOfWrong)

/-- 'laws.FnExactJoinParts': WHATEVER THE INPUT: true; the input reads as it did. -/
def fnExactJoinPartsSpec : ChangeSpec := { name := "fnExactJoinParts", fn := fun _ => fun
  | [d1, d2] => { results := [.lit (.bool true)], args := [d1, d2] }
  | _ => none }
def fnExactJoinPartsRow : OpenClaim := { program := "ytjbdelligalmdaa", sum := "7eb0e4c86c52b10b0408b8fce9e85160d448ac8db45c5d8167ed0052d926237f", func := "loop.example/g03101/laws.FnExactJoinParts", spec := "fnExactJoinParts", apart := false }
def FnExactJoinPartsSaid : Prop := fnExactJoinPartsRow.holds Try.pinned (OpenSpec.ofChange fnExactJoinPartsSpec)

/-- ITS FALSE NEIGHBOUR: 'it returns false'. Refute it at one input. -/
def fnExactJoinPartsWrong : ChangeSpec := { name := "fnExactJoinParts", fn := fun _ => fun
  | [d1, d2] => { results := [.lit (.bool false)], args := [d1, d2] }
  | _ => none }
def FnExactJoinPartsWrongFalsely : Prop := fnExactJoinPartsRow.holds Try.pinned (OpenSpec.ofChange fnExactJoinPartsWrong)

/-- 'laws.FnExactOccurrencesOf': WHATEVER THE INPUT: true; the input reads as it did. -/
def fnExactOccurrencesOfSpec : ChangeSpec := { name := "fnExactOccurrencesOf", fn := fun _ => fun
  | [d1, d2] => { results := [.lit (.bool true)], args := [d1, d2] }
  | _ => none }
def fnExactOccurrencesOfRow : OpenClaim := { program := "ytjbdelligalmdaa", sum := "7eb0e4c86c52b10b0408b8fce9e85160d448ac8db45c5d8167ed0052d926237f", func := "loop.example/g03101/laws.FnExactOccurrencesOf", spec := "fnExactOccurrencesOf", recurses := true, apart := false }
def FnExactOccurrencesOfSaid : Prop := fnExactOccurrencesOfRow.holds Try.pinned (OpenSpec.ofChange fnExactOccurrencesOfSpec)

/-- ITS FALSE NEIGHBOUR: 'it returns false'. Refute it at one input. -/
def fnExactOccurrencesOfWrong : ChangeSpec := { name := "fnExactOccurrencesOf", fn := fun _ => fun
  | [d1, d2] => { results := [.lit (.bool false)], args := [d1, d2] }
  | _ => none }
def FnExactOccurrencesOfWrongFalsely : Prop := fnExactOccurrencesOfRow.holds Try.pinned (OpenSpec.ofChange fnExactOccurrencesOfWrong)

/-- 'laws.FnExactCountPattern': WHATEVER THE INPUT: true; the input reads as it did. -/
def fnExactCountPatternSpec : ChangeSpec := { name := "fnExactCountPattern", fn := fun _ => fun
  | [d1, d2] => { results := [.lit (.bool true)], args := [d1, d2] }
  | _ => none }
def fnExactCountPatternRow : OpenClaim := { program := "ytjbdelligalmdaa", sum := "7eb0e4c86c52b10b0408b8fce9e85160d448ac8db45c5d8167ed0052d926237f", func := "loop.example/g03101/laws.FnExactCountPattern", spec := "fnExactCountPattern", recurses := true, apart := false }
def FnExactCountPatternSaid : Prop := fnExactCountPatternRow.holds Try.pinned (OpenSpec.ofChange fnExactCountPatternSpec)

/-- ITS FALSE NEIGHBOUR: 'it returns false'. Refute it at one input. -/
def fnExactCountPatternWrong : ChangeSpec := { name := "fnExactCountPattern", fn := fun _ => fun
  | [d1, d2] => { results := [.lit (.bool false)], args := [d1, d2] }
  | _ => none }
def FnExactCountPatternWrongFalsely : Prop := fnExactCountPatternRow.holds Try.pinned (OpenSpec.ofChange fnExactCountPatternWrong)

/-- 'laws.FnExactInflateBy': WHATEVER THE INPUT: true; the input reads as it did. -/
def fnExactInflateBySpec : ChangeSpec := { name := "fnExactInflateBy", fn := fun _ => fun
  | [d1, d2] => { results := [.lit (.bool true)], args := [d1, d2] }
  | _ => none }
def fnExactInflateByRow : OpenClaim := { program := "ytjbdelligalmdaa", sum := "7eb0e4c86c52b10b0408b8fce9e85160d448ac8db45c5d8167ed0052d926237f", func := "loop.example/g03101/laws.FnExactInflateBy", spec := "fnExactInflateBy", apart := false }
def FnExactInflateBySaid : Prop := fnExactInflateByRow.holds Try.pinned (OpenSpec.ofChange fnExactInflateBySpec)

/-- ITS FALSE NEIGHBOUR: 'it returns false'. Refute it at one input. -/
def fnExactInflateByWrong : ChangeSpec := { name := "fnExactInflateBy", fn := fun _ => fun
  | [d1, d2] => { results := [.lit (.bool false)], args := [d1, d2] }
  | _ => none }
def FnExactInflateByWrongFalsely : Prop := fnExactInflateByRow.holds Try.pinned (OpenSpec.ofChange fnExactInflateByWrong)

/-- 'laws.FnExactIsLayered': WHATEVER THE INPUT: true; the input reads as it did. -/
def fnExactIsLayeredSpec : ChangeSpec := { name := "fnExactIsLayered", fn := fun _ => fun
  | [d] => { results := [.lit (.bool true)], args := [d] }
  | _ => none }
def fnExactIsLayeredRow : OpenClaim := { program := "ytjbdelligalmdaa", sum := "7eb0e4c86c52b10b0408b8fce9e85160d448ac8db45c5d8167ed0052d926237f", func := "loop.example/g03101/laws.FnExactIsLayered", spec := "fnExactIsLayered", unfollowed := true, recurses := true, apart := false }
def FnExactIsLayeredSaid : Prop := fnExactIsLayeredRow.holds Try.pinned (OpenSpec.ofChange fnExactIsLayeredSpec)

/-- ITS FALSE NEIGHBOUR: 'it returns false'. Refute it at one input. -/
def fnExactIsLayeredWrong : ChangeSpec := { name := "fnExactIsLayered", fn := fun _ => fun
  | [d] => { results := [.lit (.bool false)], args := [d] }
  | _ => none }
def FnExactIsLayeredWrongFalsely : Prop := fnExactIsLayeredRow.holds Try.pinned (OpenSpec.ofChange fnExactIsLayeredWrong)

/-- 'laws.FnExactSplitPerm': WHATEVER THE INPUT: true; the input reads as it did. -/
def fnExactSplitPermSpec : ChangeSpec := { name := "fnExactSplitPerm", fn := fun _ => fun
  | [d] => { results := [.lit (.bool true)], args := [d] }
  | _ => none }
def fnExactSplitPermRow : OpenClaim := { program := "ytjbdelligalmdaa", sum := "7eb0e4c86c52b10b0408b8fce9e85160d448ac8db45c5d8167ed0052d926237f", func := "loop.example/g03101/laws.FnExactSplitPerm", spec := "fnExactSplitPerm", apart := false }
def FnExactSplitPermSaid : Prop := fnExactSplitPermRow.holds Try.pinned (OpenSpec.ofChange fnExactSplitPermSpec)

/-- ITS FALSE NEIGHBOUR: 'it returns false'. Refute it at one input. -/
def fnExactSplitPermWrong : ChangeSpec := { name := "fnExactSplitPerm", fn := fun _ => fun
  | [d] => { results := [.lit (.bool false)], args := [d] }
  | _ => none }
def FnExactSplitPermWrongFalsely : Prop := fnExactSplitPermRow.holds Try.pinned (OpenSpec.ofChange fnExactSplitPermWrong)

/-- 'laws.FnExactTreeDepth': WHATEVER THE INPUT: true; the input reads as it did. -/
def fnExactTreeDepthSpec : ChangeSpec := { name := "fnExactTreeDepth", fn := fun _ => fun
  | [d] => { results := [.lit (.bool true)], args := [d] }
  | _ => none }
def fnExactTreeDepthRow : OpenClaim := { program := "ytjbdelligalmdaa", sum := "7eb0e4c86c52b10b0408b8fce9e85160d448ac8db45c5d8167ed0052d926237f", func := "loop.example/g03101/laws.FnExactTreeDepth", spec := "fnExactTreeDepth", recurses := true, apart := false }
def FnExactTreeDepthSaid : Prop := fnExactTreeDepthRow.holds Try.pinned (OpenSpec.ofChange fnExactTreeDepthSpec)

/-- ITS FALSE NEIGHBOUR: 'it returns false'. Refute it at one input. -/
def fnExactTreeDepthWrong : ChangeSpec := { name := "fnExactTreeDepth", fn := fun _ => fun
  | [d] => { results := [.lit (.bool false)], args := [d] }
  | _ => none }
def FnExactTreeDepthWrongFalsely : Prop := fnExactTreeDepthRow.holds Try.pinned (OpenSpec.ofChange fnExactTreeDepthWrong)

/-- 'laws.FnExactIsSeparable': WHATEVER THE INPUT: true; the input reads as it did. -/
def fnExactIsSeparableSpec : ChangeSpec := { name := "fnExactIsSeparable", fn := fun _ => fun
  | [d] => { results := [.lit (.bool true)], args := [d] }
  | _ => none }
def fnExactIsSeparableRow : OpenClaim := { program := "ytjbdelligalmdaa", sum := "7eb0e4c86c52b10b0408b8fce9e85160d448ac8db45c5d8167ed0052d926237f", func := "loop.example/g03101/laws.FnExactIsSeparable", spec := "fnExactIsSeparable", unfollowed := true, recurses := true, apart := false }
def FnExactIsSeparableSaid : Prop := fnExactIsSeparableRow.holds Try.pinned (OpenSpec.ofChange fnExactIsSeparableSpec)

/-- ITS FALSE NEIGHBOUR: 'it returns false'. Refute it at one input. -/
def fnExactIsSeparableWrong : ChangeSpec := { name := "fnExactIsSeparable", fn := fun _ => fun
  | [d] => { results := [.lit (.bool false)], args := [d] }
  | _ => none }
def FnExactIsSeparableWrongFalsely : Prop := fnExactIsSeparableRow.holds Try.pinned (OpenSpec.ofChange fnExactIsSeparableWrong)

/- THE SECOND FORM. 'bulk': how many values and letters a reading holds, each counted each time it is reached (what is shared counts as often as it is met; a slice's spare places count too). A statement '..UptoSaid' is the law's where the arguments, and the package variables that the reading takes, are together of bulk at most 1048576: NARROWER than '..Said'. Prove '..Said' where nothing that the law and all that it calls make is longer than what came in: it says more and counts as full. Else prove '..UptoSaid'. A law counts once. -/
mutual
def uptoBulk {H : Type} : DataW H → Nat
  | .lit (.string bytes) => bytes.length + 1
  | .lit _ => 1
  | .nil => 1
  | .ptr d => uptoBulk d + 1
  | .slice elems spare => uptoBulkAll elems + uptoBulkAll spare + 1
  | .agg parts => uptoBulkAll parts + 1
  | .iface _ d => uptoBulk d + 1
  | .map entries => uptoBulkEntries entries + 1
  | .held _ => 1
def uptoBulkAll {H : Type} : List (DataW H) → Nat
  | [] => 0
  | d :: r => uptoBulk d + uptoBulkAll r
def uptoBulkEntries {H : Type} : List (Lit × DataW H) → Nat
  | [] => 0
  | x :: r => uptoBulkEntry x + uptoBulkEntries r
def uptoBulkEntry {H : Type} : Lit × DataW H → Nat
  | (.string bytes, d) => bytes.length + uptoBulk d + 1
  | (_, d) => uptoBulk d + 1
 end
def uptoSmall : (H : Type) → List (DataW H) → Bool := fun _ ds => decide (uptoBulkAll ds ≤ 1048576)
def OpenSpec.upto (s : _root_.Go.ChangeSpec) : _root_.Go.OpenSpec := { _root_.Go.OpenSpec.ofChange s with cond := some uptoSmall }

/-- 'laws.FnExactPermsOf', WHERE WHAT IT READS IS OF BULK AT MOST 1048576: true; the input reads as it did. -/
def fnExactPermsOfUptoRow : OpenClaim := { program := "ytjbdelligalmdaa", sum := "7eb0e4c86c52b10b0408b8fce9e85160d448ac8db45c5d8167ed0052d926237f", func := "loop.example/g03101/laws.FnExactPermsOf", spec := "fnExactPermsOf", recurses := true, apart := false, narrowed := true }
def FnExactPermsOfUptoSaid : Prop := fnExactPermsOfUptoRow.holds Try.pinned (OpenSpec.upto fnExactPermsOfSpec)

/-- 'laws.FnExactSumParts', WHERE WHAT IT READS IS OF BULK AT MOST 1048576: true; the input reads as it did. -/
def fnExactSumPartsUptoRow : OpenClaim := { program := "ytjbdelligalmdaa", sum := "7eb0e4c86c52b10b0408b8fce9e85160d448ac8db45c5d8167ed0052d926237f", func := "loop.example/g03101/laws.FnExactSumParts", spec := "fnExactSumParts", apart := false, narrowed := true }
def FnExactSumPartsUptoSaid : Prop := fnExactSumPartsUptoRow.holds Try.pinned (OpenSpec.upto fnExactSumPartsSpec)

/-- 'laws.FnExactSkewParts', WHERE WHAT IT READS IS OF BULK AT MOST 1048576: true; the input reads as it did. -/
def fnExactSkewPartsUptoRow : OpenClaim := { program := "ytjbdelligalmdaa", sum := "7eb0e4c86c52b10b0408b8fce9e85160d448ac8db45c5d8167ed0052d926237f", func := "loop.example/g03101/laws.FnExactSkewParts", spec := "fnExactSkewParts", apart := false, narrowed := true }
def FnExactSkewPartsUptoSaid : Prop := fnExactSkewPartsUptoRow.holds Try.pinned (OpenSpec.upto fnExactSkewPartsSpec)

/-- 'laws.FnExactIntervalsOf', WHERE WHAT IT READS IS OF BULK AT MOST 1048576: true; the input reads as it did. -/
def fnExactIntervalsOfUptoRow : OpenClaim := { program := "ytjbdelligalmdaa", sum := "7eb0e4c86c52b10b0408b8fce9e85160d448ac8db45c5d8167ed0052d926237f", func := "loop.example/g03101/laws.FnExactIntervalsOf", spec := "fnExactIntervalsOf", apart := false, narrowed := true }
def FnExactIntervalsOfUptoSaid : Prop := fnExactIntervalsOfUptoRow.holds Try.pinned (OpenSpec.upto fnExactIntervalsOfSpec)

/-- 'laws.FnExactJoinParts', WHERE WHAT IT READS IS OF BULK AT MOST 1048576: true; the input reads as it did. -/
def fnExactJoinPartsUptoRow : OpenClaim := { program := "ytjbdelligalmdaa", sum := "7eb0e4c86c52b10b0408b8fce9e85160d448ac8db45c5d8167ed0052d926237f", func := "loop.example/g03101/laws.FnExactJoinParts", spec := "fnExactJoinParts", apart := false, narrowed := true }
def FnExactJoinPartsUptoSaid : Prop := fnExactJoinPartsUptoRow.holds Try.pinned (OpenSpec.upto fnExactJoinPartsSpec)

/-- 'laws.FnExactOccurrencesOf', WHERE WHAT IT READS IS OF BULK AT MOST 1048576: true; the input reads as it did. -/
def fnExactOccurrencesOfUptoRow : OpenClaim := { program := "ytjbdelligalmdaa", sum := "7eb0e4c86c52b10b0408b8fce9e85160d448ac8db45c5d8167ed0052d926237f", func := "loop.example/g03101/laws.FnExactOccurrencesOf", spec := "fnExactOccurrencesOf", recurses := true, apart := false, narrowed := true }
def FnExactOccurrencesOfUptoSaid : Prop := fnExactOccurrencesOfUptoRow.holds Try.pinned (OpenSpec.upto fnExactOccurrencesOfSpec)

/-- 'laws.FnExactCountPattern', WHERE WHAT IT READS IS OF BULK AT MOST 1048576: true; the input reads as it did. -/
def fnExactCountPatternUptoRow : OpenClaim := { program := "ytjbdelligalmdaa", sum := "7eb0e4c86c52b10b0408b8fce9e85160d448ac8db45c5d8167ed0052d926237f", func := "loop.example/g03101/laws.FnExactCountPattern", spec := "fnExactCountPattern", recurses := true, apart := false, narrowed := true }
def FnExactCountPatternUptoSaid : Prop := fnExactCountPatternUptoRow.holds Try.pinned (OpenSpec.upto fnExactCountPatternSpec)

/-- 'laws.FnExactInflateBy', WHERE WHAT IT READS IS OF BULK AT MOST 1048576: true; the input reads as it did. -/
def fnExactInflateByUptoRow : OpenClaim := { program := "ytjbdelligalmdaa", sum := "7eb0e4c86c52b10b0408b8fce9e85160d448ac8db45c5d8167ed0052d926237f", func := "loop.example/g03101/laws.FnExactInflateBy", spec := "fnExactInflateBy", apart := false, narrowed := true }
def FnExactInflateByUptoSaid : Prop := fnExactInflateByUptoRow.holds Try.pinned (OpenSpec.upto fnExactInflateBySpec)

/-- 'laws.FnExactIsLayered', WHERE WHAT IT READS IS OF BULK AT MOST 1048576: true; the input reads as it did. -/
def fnExactIsLayeredUptoRow : OpenClaim := { program := "ytjbdelligalmdaa", sum := "7eb0e4c86c52b10b0408b8fce9e85160d448ac8db45c5d8167ed0052d926237f", func := "loop.example/g03101/laws.FnExactIsLayered", spec := "fnExactIsLayered", unfollowed := true, recurses := true, apart := false, narrowed := true }
def FnExactIsLayeredUptoSaid : Prop := fnExactIsLayeredUptoRow.holds Try.pinned (OpenSpec.upto fnExactIsLayeredSpec)

/-- 'laws.FnExactSplitPerm', WHERE WHAT IT READS IS OF BULK AT MOST 1048576: true; the input reads as it did. -/
def fnExactSplitPermUptoRow : OpenClaim := { program := "ytjbdelligalmdaa", sum := "7eb0e4c86c52b10b0408b8fce9e85160d448ac8db45c5d8167ed0052d926237f", func := "loop.example/g03101/laws.FnExactSplitPerm", spec := "fnExactSplitPerm", apart := false, narrowed := true }
def FnExactSplitPermUptoSaid : Prop := fnExactSplitPermUptoRow.holds Try.pinned (OpenSpec.upto fnExactSplitPermSpec)

/-- 'laws.FnExactTreeDepth', WHERE WHAT IT READS IS OF BULK AT MOST 1048576: true; the input reads as it did. -/
def fnExactTreeDepthUptoRow : OpenClaim := { program := "ytjbdelligalmdaa", sum := "7eb0e4c86c52b10b0408b8fce9e85160d448ac8db45c5d8167ed0052d926237f", func := "loop.example/g03101/laws.FnExactTreeDepth", spec := "fnExactTreeDepth", recurses := true, apart := false, narrowed := true }
def FnExactTreeDepthUptoSaid : Prop := fnExactTreeDepthUptoRow.holds Try.pinned (OpenSpec.upto fnExactTreeDepthSpec)

/-- 'laws.FnExactIsSeparable', WHERE WHAT IT READS IS OF BULK AT MOST 1048576: true; the input reads as it did. -/
def fnExactIsSeparableUptoRow : OpenClaim := { program := "ytjbdelligalmdaa", sum := "7eb0e4c86c52b10b0408b8fce9e85160d448ac8db45c5d8167ed0052d926237f", func := "loop.example/g03101/laws.FnExactIsSeparable", spec := "fnExactIsSeparable", unfollowed := true, recurses := true, apart := false, narrowed := true }
def FnExactIsSeparableUptoSaid : Prop := fnExactIsSeparableUptoRow.holds Try.pinned (OpenSpec.upto fnExactIsSeparableSpec)

end Rows
end Go.Proofs.Ytjbdelligalmdaa
