/-
  No cell of these rows narrows 'for every input' (looked for: loops, veiled, ifaces, maps, wideKeys, modest, calm, conditions, laid).
  DERIVED. THE GIVEN ROWS OF THIS SEAT. 6 by the template 'for every input the law returns true; each argument reads behind the call as it read before'; 0 by the template 'total and deterministic' (their statements: YtmojniiimondfaaTotals.lean).
  GIVEN WITH THE SEED: the statements are not yours to turn. If you find one false, say at which input.
  Laid BY PROGRAM, IN A SANDBOX (cutbox-rows.mjs): the forced cells as the released guide's own fill.sh prints them over the translation 7e9fc54513b7bcd1… (all of the seat's roots in one cut). By AI agents, Wed Nov 11 2026. No macro, syntax, notation, axiom, sorry.
-/
import Derived.Test.YtmojniiimondfaaChecked
import GoSem.Claim
import GoSem.ClaimJoined
import GoSem.ClaimMapViews
import Derived.JoinedTies
import Derived.KernelRfl
namespace Go.Proofs.Ytmojniiimondfaa
/- THE CELL 'sum', in the pinned program and in every row, IS THE sha256 OF THE DUMP (.gsa) THAT YtmojniiimondfaaProg.lean LOADS. Nothing in Lean hashes anything: it is a label: what it is worth is what the hold of that sum in a sandbox is worth. -/
noncomputable def Try.pinned : Pinned := { name := "ytmojniiimondfaa", sum := "7e9fc54513b7bcd15e38d076ed46ed9786ec2236ebfdc50267daa5ab435affdd", checked := Try.checked }
namespace Rows
def none {H : Type} : Left H := { results := [], args := [] }

/-- 'laws.FnExactJoin': WHATEVER THE INPUT: true; the input reads as it did. -/
def fnExactJoinSpec : ChangeSpec := { name := "fnExactJoin", fn := fun _ => fun
  | [d1, d2] => { results := [.lit (.bool true)], args := [d1, d2] }
  | _ => none }
def fnExactJoinRow : OpenClaim := { program := "ytmojniiimondfaa", sum := "7e9fc54513b7bcd15e38d076ed46ed9786ec2236ebfdc50267daa5ab435affdd", func := "loop.example/g03101/laws.FnExactJoin", spec := "fnExactJoin", inPlace := ["internal/abi.NoEscape", "internal/bytealg.MakeNoZero"], apart := false }
def FnExactJoinSaid : Prop := fnExactJoinRow.holds Try.pinned (OpenSpec.ofChange fnExactJoinSpec)

/-- ITS FALSE NEIGHBOUR: 'it returns false'. Refute it at one input. -/
def fnExactJoinWrong : ChangeSpec := { name := "fnExactJoin", fn := fun _ => fun
  | [d1, d2] => { results := [.lit (.bool false)], args := [d1, d2] }
  | _ => none }
def FnExactJoinWrongFalsely : Prop := fnExactJoinRow.holds Try.pinned (OpenSpec.ofChange fnExactJoinWrong)

/-- 'laws.FnExactTreeText': WHATEVER THE INPUT: true; the input reads as it did. -/
def fnExactTreeTextSpec : ChangeSpec := { name := "fnExactTreeText", fn := fun _ => fun
  | [d] => { results := [.lit (.bool true)], args := [d] }
  | _ => none }
def fnExactTreeTextRow : OpenClaim := { program := "ytmojniiimondfaa", sum := "7e9fc54513b7bcd15e38d076ed46ed9786ec2236ebfdc50267daa5ab435affdd", func := "loop.example/g03101/laws.FnExactTreeText", spec := "fnExactTreeText", inPlace := ["internal/abi.NoEscape", "internal/bytealg.MakeNoZero"], recurses := true, apart := false }
def FnExactTreeTextSaid : Prop := fnExactTreeTextRow.holds Try.pinned (OpenSpec.ofChange fnExactTreeTextSpec)

/-- ITS FALSE NEIGHBOUR: 'it returns false'. Refute it at one input. -/
def fnExactTreeTextWrong : ChangeSpec := { name := "fnExactTreeText", fn := fun _ => fun
  | [d] => { results := [.lit (.bool false)], args := [d] }
  | _ => none }
def FnExactTreeTextWrongFalsely : Prop := fnExactTreeTextRow.holds Try.pinned (OpenSpec.ofChange fnExactTreeTextWrong)

/-- 'laws.FnIntervals': WHATEVER THE INPUT: true; the input reads as it did. -/
def fnIntervalsSpec : ChangeSpec := { name := "fnIntervals", fn := fun _ => fun
  | [d] => { results := [.lit (.bool true)], args := [d] }
  | _ => none }
def fnIntervalsRow : OpenClaim := { program := "ytmojniiimondfaa", sum := "7e9fc54513b7bcd15e38d076ed46ed9786ec2236ebfdc50267daa5ab435affdd", func := "loop.example/g03101/laws.FnIntervals", spec := "fnIntervals", apart := false }
def FnIntervalsSaid : Prop := fnIntervalsRow.holds Try.pinned (OpenSpec.ofChange fnIntervalsSpec)

/-- ITS FALSE NEIGHBOUR: 'it returns false'. Refute it at one input. -/
def fnIntervalsWrong : ChangeSpec := { name := "fnIntervals", fn := fun _ => fun
  | [d] => { results := [.lit (.bool false)], args := [d] }
  | _ => none }
def FnIntervalsWrongFalsely : Prop := fnIntervalsRow.holds Try.pinned (OpenSpec.ofChange fnIntervalsWrong)

/-- 'laws.FnSums': WHATEVER THE INPUT: true; the input reads as it did. -/
def fnSumsSpec : ChangeSpec := { name := "fnSums", fn := fun _ => fun
  | [d] => { results := [.lit (.bool true)], args := [d] }
  | _ => none }
def fnSumsRow : OpenClaim := { program := "ytmojniiimondfaa", sum := "7e9fc54513b7bcd15e38d076ed46ed9786ec2236ebfdc50267daa5ab435affdd", func := "loop.example/g03101/laws.FnSums", spec := "fnSums", unfollowed := true, recurses := true, apart := false }
def FnSumsSaid : Prop := fnSumsRow.holds Try.pinned (OpenSpec.ofChange fnSumsSpec)

/-- ITS FALSE NEIGHBOUR: 'it returns false'. Refute it at one input. -/
def fnSumsWrong : ChangeSpec := { name := "fnSums", fn := fun _ => fun
  | [d] => { results := [.lit (.bool false)], args := [d] }
  | _ => none }
def FnSumsWrongFalsely : Prop := fnSumsRow.holds Try.pinned (OpenSpec.ofChange fnSumsWrong)

/-- 'laws.FnExactPermText': WHATEVER THE INPUT: true; the input reads as it did. -/
def fnExactPermTextSpec : ChangeSpec := { name := "fnExactPermText", fn := fun _ => fun
  | [d] => { results := [.lit (.bool true)], args := [d] }
  | _ => none }
def fnExactPermTextRow : OpenClaim := { program := "ytmojniiimondfaa", sum := "7e9fc54513b7bcd15e38d076ed46ed9786ec2236ebfdc50267daa5ab435affdd", func := "loop.example/g03101/laws.FnExactPermText", spec := "fnExactPermText", apart := false }
def FnExactPermTextSaid : Prop := fnExactPermTextRow.holds Try.pinned (OpenSpec.ofChange fnExactPermTextSpec)

/-- ITS FALSE NEIGHBOUR: 'it returns false'. Refute it at one input. -/
def fnExactPermTextWrong : ChangeSpec := { name := "fnExactPermText", fn := fun _ => fun
  | [d] => { results := [.lit (.bool false)], args := [d] }
  | _ => none }
def FnExactPermTextWrongFalsely : Prop := fnExactPermTextRow.holds Try.pinned (OpenSpec.ofChange fnExactPermTextWrong)

/-- 'laws.FnExactParsePerm': WHATEVER THE INPUT: true; the input reads as it did. -/
def fnExactParsePermSpec : ChangeSpec := { name := "fnExactParsePerm", fn := fun _ => fun
  | [d] => { results := [.lit (.bool true)], args := [d] }
  | _ => none }
def fnExactParsePermRow : OpenClaim := { program := "ytmojniiimondfaa", sum := "7e9fc54513b7bcd15e38d076ed46ed9786ec2236ebfdc50267daa5ab435affdd", func := "loop.example/g03101/laws.FnExactParsePerm", spec := "fnExactParsePerm", apart := false }
def FnExactParsePermSaid : Prop := fnExactParsePermRow.holds Try.pinned (OpenSpec.ofChange fnExactParsePermSpec)

/-- ITS FALSE NEIGHBOUR: 'it returns false'. Refute it at one input. -/
def fnExactParsePermWrong : ChangeSpec := { name := "fnExactParsePerm", fn := fun _ => fun
  | [d] => { results := [.lit (.bool false)], args := [d] }
  | _ => none }
def FnExactParsePermWrongFalsely : Prop := fnExactParsePermRow.holds Try.pinned (OpenSpec.ofChange fnExactParsePermWrong)

/- THE SECOND FORM. 'bulk': how many values and letters a reading holds, each counted each time it is reached (what is shared counts as often as it is met; a slice's spare places count too). A statement '..UptoSaid' is the law's where the arguments, and the package variables that the reading takes, are together of bulk at most 1048576: NARROWER than '..Said'. Prove '..Said' where nothing that the law and all that it calls make is longer than what came in: it says more and counts as full. Else prove '..UptoSaid'. A law counts once. -/
mutual
def uptoBulk {H : Type} : DataW H → Nat
  | .lit (.string bytes) => bytes.length + 1
  | .lit _ => 1
  | .nil => 1
  | .ptr d => uptoBulk d + 1
  | .slice elems spare => uptoBulkAll elems + uptoBulkAll spare + 1
  | .agg parts => uptoBulkAll parts + 1
  | .iface _ d => uptoBulk d + 1
  | .map entries => uptoBulkEntries entries + 1
  | .held _ => 1
def uptoBulkAll {H : Type} : List (DataW H) → Nat
  | [] => 0
  | d :: r => uptoBulk d + uptoBulkAll r
def uptoBulkEntries {H : Type} : List (Lit × DataW H) → Nat
  | [] => 0
  | x :: r => uptoBulkEntry x + uptoBulkEntries r
def uptoBulkEntry {H : Type} : Lit × DataW H → Nat
  | (.string bytes, d) => bytes.length + uptoBulk d + 1
  | (_, d) => uptoBulk d + 1
 end
def uptoSmall : (H : Type) → List (DataW H) → Bool := fun _ ds => decide (uptoBulkAll ds ≤ 1048576)
def OpenSpec.upto (s : _root_.Go.ChangeSpec) : _root_.Go.OpenSpec := { _root_.Go.OpenSpec.ofChange s with cond := some uptoSmall }

/-- 'laws.FnExactJoin', WHERE WHAT IT READS IS OF BULK AT MOST 1048576: true; the input reads as it did. -/
def fnExactJoinUptoRow : OpenClaim := { program := "ytmojniiimondfaa", sum := "7e9fc54513b7bcd15e38d076ed46ed9786ec2236ebfdc50267daa5ab435affdd", func := "loop.example/g03101/laws.FnExactJoin", spec := "fnExactJoin", inPlace := ["internal/abi.NoEscape", "internal/bytealg.MakeNoZero"], apart := false, narrowed := true }
def FnExactJoinUptoSaid : Prop := fnExactJoinUptoRow.holds Try.pinned (OpenSpec.upto fnExactJoinSpec)

/-- 'laws.FnExactTreeText', WHERE WHAT IT READS IS OF BULK AT MOST 1048576: true; the input reads as it did. -/
def fnExactTreeTextUptoRow : OpenClaim := { program := "ytmojniiimondfaa", sum := "7e9fc54513b7bcd15e38d076ed46ed9786ec2236ebfdc50267daa5ab435affdd", func := "loop.example/g03101/laws.FnExactTreeText", spec := "fnExactTreeText", inPlace := ["internal/abi.NoEscape", "internal/bytealg.MakeNoZero"], recurses := true, apart := false, narrowed := true }
def FnExactTreeTextUptoSaid : Prop := fnExactTreeTextUptoRow.holds Try.pinned (OpenSpec.upto fnExactTreeTextSpec)

/-- 'laws.FnIntervals', WHERE WHAT IT READS IS OF BULK AT MOST 1048576: true; the input reads as it did. -/
def fnIntervalsUptoRow : OpenClaim := { program := "ytmojniiimondfaa", sum := "7e9fc54513b7bcd15e38d076ed46ed9786ec2236ebfdc50267daa5ab435affdd", func := "loop.example/g03101/laws.FnIntervals", spec := "fnIntervals", apart := false, narrowed := true }
def FnIntervalsUptoSaid : Prop := fnIntervalsUptoRow.holds Try.pinned (OpenSpec.upto fnIntervalsSpec)

/-- 'laws.FnSums', WHERE WHAT IT READS IS OF BULK AT MOST 1048576: true; the input reads as it did. -/
def fnSumsUptoRow : OpenClaim := { program := "ytmojniiimondfaa", sum := "7e9fc54513b7bcd15e38d076ed46ed9786ec2236ebfdc50267daa5ab435affdd", func := "loop.example/g03101/laws.FnSums", spec := "fnSums", unfollowed := true, recurses := true, apart := false, narrowed := true }
def FnSumsUptoSaid : Prop := fnSumsUptoRow.holds Try.pinned (OpenSpec.upto fnSumsSpec)

/-- 'laws.FnExactPermText', WHERE WHAT IT READS IS OF BULK AT MOST 1048576: true; the input reads as it did. -/
def fnExactPermTextUptoRow : OpenClaim := { program := "ytmojniiimondfaa", sum := "7e9fc54513b7bcd15e38d076ed46ed9786ec2236ebfdc50267daa5ab435affdd", func := "loop.example/g03101/laws.FnExactPermText", spec := "fnExactPermText", apart := false, narrowed := true }
def FnExactPermTextUptoSaid : Prop := fnExactPermTextUptoRow.holds Try.pinned (OpenSpec.upto fnExactPermTextSpec)

/-- 'laws.FnExactParsePerm', WHERE WHAT IT READS IS OF BULK AT MOST 1048576: true; the input reads as it did. -/
def fnExactParsePermUptoRow : OpenClaim := { program := "ytmojniiimondfaa", sum := "7e9fc54513b7bcd15e38d076ed46ed9786ec2236ebfdc50267daa5ab435affdd", func := "loop.example/g03101/laws.FnExactParsePerm", spec := "fnExactParsePerm", apart := false, narrowed := true }
def FnExactParsePermUptoSaid : Prop := fnExactParsePermUptoRow.holds Try.pinned (OpenSpec.upto fnExactParsePermSpec)

end Rows
end Go.Proofs.Ytmojniiimondfaa
