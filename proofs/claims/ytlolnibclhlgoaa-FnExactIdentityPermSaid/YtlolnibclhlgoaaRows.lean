/-
  No cell of these rows narrows 'for every input' (looked for: loops, veiled, ifaces, maps, wideKeys, modest, calm, conditions, laid).
  DERIVED. THE GIVEN ROWS OF THIS SEAT. 12 by the template 'for every input the law returns true; each argument reads behind the call as it read before'; 0 by the template 'total and deterministic' (their statements: YtlolnibclhlgoaaTotals.lean).
  GIVEN WITH THE SEED: the statements are not yours to turn. If you find one false, say at which input.
  Laid BY PROGRAM, IN A SANDBOX (cutbox-rows.mjs): the forced cells as the released guide's own fill.sh prints them over the translation 75acda50a70502b9… (all of the seat's roots in one cut). By AI agents, Wed Nov 11 2026. No macro, syntax, notation, axiom, sorry.
-/
import Derived.Test.YtlolnibclhlgoaaChecked
import GoSem.Claim
import GoSem.ClaimJoined
import GoSem.ClaimMapViews
import Derived.JoinedTies
import Derived.KernelRfl
namespace Go.Proofs.Ytlolnibclhlgoaa
/- THE CELL 'sum', in the pinned program and in every row, IS THE sha256 OF THE DUMP (.gsa) THAT YtlolnibclhlgoaaProg.lean LOADS. Nothing in Lean hashes anything: it is a label: what it is worth is what the hold of that sum in a sandbox is worth. -/
noncomputable def Try.pinned : Pinned := { name := "ytlolnibclhlgoaa", sum := "75acda50a70502b9e4b38d200627b14befb263a1fdec25845693fccdacdc9f88", checked := Try.checked }
namespace Rows
def none {H : Type} : Left H := { results := [], args := [] }

/-- 'laws.FnExactConstants': WHATEVER THE INPUT: true; the input reads as it did. -/
def fnExactConstantsSpec : ChangeSpec := { name := "fnExactConstants", fn := fun _ => fun
  | [] => { results := [.lit (.bool true)], args := [] }
  | _ => none }
def fnExactConstantsRow : OpenClaim := { program := "ytlolnibclhlgoaa", sum := "75acda50a70502b9e4b38d200627b14befb263a1fdec25845693fccdacdc9f88", func := "loop.example/g03101/laws.FnExactConstants", spec := "fnExactConstants", apart := false }
def FnExactConstantsSaid : Prop := fnExactConstantsRow.holds Try.pinned (OpenSpec.ofChange fnExactConstantsSpec)

/-- ITS FALSE NEIGHBOUR: 'it returns false'. Refute it at one input. -/
def fnExactConstantsWrong : ChangeSpec := { name := "fnExactConstants", fn := fun _ => fun
  | [] => { results := [.lit (.bool false)], args := [] }
  | _ => none }
def FnExactConstantsWrongFalsely : Prop := fnExactConstantsRow.holds Try.pinned (OpenSpec.ofChange fnExactConstantsWrong)

/-- 'laws.FnExactIdentityPerm': WHATEVER THE INPUT: true; the input reads as it did. -/
def fnExactIdentityPermSpec : ChangeSpec := { name := "fnExactIdentityPerm", fn := fun _ => fun
  | [d] => { results := [.lit (.bool true)], args := [d] }
  | _ => none }
def fnExactIdentityPermRow : OpenClaim := { program := "ytlolnibclhlgoaa", sum := "75acda50a70502b9e4b38d200627b14befb263a1fdec25845693fccdacdc9f88", func := "loop.example/g03101/laws.FnExactIdentityPerm", spec := "fnExactIdentityPerm", apart := false }
def FnExactIdentityPermSaid : Prop := fnExactIdentityPermRow.holds Try.pinned (OpenSpec.ofChange fnExactIdentityPermSpec)

/-- ITS FALSE NEIGHBOUR: 'it returns false'. Refute it at one input. -/
def fnExactIdentityPermWrong : ChangeSpec := { name := "fnExactIdentityPerm", fn := fun _ => fun
  | [d] => { results := [.lit (.bool false)], args := [d] }
  | _ => none }
def FnExactIdentityPermWrongFalsely : Prop := fnExactIdentityPermRow.holds Try.pinned (OpenSpec.ofChange fnExactIdentityPermWrong)

/-- 'laws.FnExactIsPerm': WHATEVER THE INPUT: true; the input reads as it did. -/
def fnExactIsPermSpec : ChangeSpec := { name := "fnExactIsPerm", fn := fun _ => fun
  | [d] => { results := [.lit (.bool true)], args := [d] }
  | _ => none }
def fnExactIsPermRow : OpenClaim := { program := "ytlolnibclhlgoaa", sum := "75acda50a70502b9e4b38d200627b14befb263a1fdec25845693fccdacdc9f88", func := "loop.example/g03101/laws.FnExactIsPerm", spec := "fnExactIsPerm", apart := false }
def FnExactIsPermSaid : Prop := fnExactIsPermRow.holds Try.pinned (OpenSpec.ofChange fnExactIsPermSpec)

/-- ITS FALSE NEIGHBOUR: 'it returns false'. Refute it at one input. -/
def fnExactIsPermWrong : ChangeSpec := { name := "fnExactIsPerm", fn := fun _ => fun
  | [d] => { results := [.lit (.bool false)], args := [d] }
  | _ => none }
def FnExactIsPermWrongFalsely : Prop := fnExactIsPermRow.holds Try.pinned (OpenSpec.ofChange fnExactIsPermWrong)

/-- 'laws.FnExactParsePerm': WHATEVER THE INPUT: true; the input reads as it did. -/
def fnExactParsePermSpec : ChangeSpec := { name := "fnExactParsePerm", fn := fun _ => fun
  | [d] => { results := [.lit (.bool true)], args := [d] }
  | _ => none }
def fnExactParsePermRow : OpenClaim := { program := "ytlolnibclhlgoaa", sum := "75acda50a70502b9e4b38d200627b14befb263a1fdec25845693fccdacdc9f88", func := "loop.example/g03101/laws.FnExactParsePerm", spec := "fnExactParsePerm", apart := false }
def FnExactParsePermSaid : Prop := fnExactParsePermRow.holds Try.pinned (OpenSpec.ofChange fnExactParsePermSpec)

/-- ITS FALSE NEIGHBOUR: 'it returns false'. Refute it at one input. -/
def fnExactParsePermWrong : ChangeSpec := { name := "fnExactParsePerm", fn := fun _ => fun
  | [d] => { results := [.lit (.bool false)], args := [d] }
  | _ => none }
def FnExactParsePermWrongFalsely : Prop := fnExactParsePermRow.holds Try.pinned (OpenSpec.ofChange fnExactParsePermWrong)

/-- 'laws.FnExactComposePerm': WHATEVER THE INPUT: true; the input reads as it did. -/
def fnExactComposePermSpec : ChangeSpec := { name := "fnExactComposePerm", fn := fun _ => fun
  | [d1, d2] => { results := [.lit (.bool true)], args := [d1, d2] }
  | _ => none }
def fnExactComposePermRow : OpenClaim := { program := "ytlolnibclhlgoaa", sum := "75acda50a70502b9e4b38d200627b14befb263a1fdec25845693fccdacdc9f88", func := "loop.example/g03101/laws.FnExactComposePerm", spec := "fnExactComposePerm", apart := false }
def FnExactComposePermSaid : Prop := fnExactComposePermRow.holds Try.pinned (OpenSpec.ofChange fnExactComposePermSpec)

/-- ITS FALSE NEIGHBOUR: 'it returns false'. Refute it at one input. -/
def fnExactComposePermWrong : ChangeSpec := { name := "fnExactComposePerm", fn := fun _ => fun
  | [d1, d2] => { results := [.lit (.bool false)], args := [d1, d2] }
  | _ => none }
def FnExactComposePermWrongFalsely : Prop := fnExactComposePermRow.holds Try.pinned (OpenSpec.ofChange fnExactComposePermWrong)

/-- 'laws.FnExactIsInvolution': WHATEVER THE INPUT: true; the input reads as it did. -/
def fnExactIsInvolutionSpec : ChangeSpec := { name := "fnExactIsInvolution", fn := fun _ => fun
  | [d] => { results := [.lit (.bool true)], args := [d] }
  | _ => none }
def fnExactIsInvolutionRow : OpenClaim := { program := "ytlolnibclhlgoaa", sum := "75acda50a70502b9e4b38d200627b14befb263a1fdec25845693fccdacdc9f88", func := "loop.example/g03101/laws.FnExactIsInvolution", spec := "fnExactIsInvolution", apart := false }
def FnExactIsInvolutionSaid : Prop := fnExactIsInvolutionRow.holds Try.pinned (OpenSpec.ofChange fnExactIsInvolutionSpec)

/-- ITS FALSE NEIGHBOUR: 'it returns false'. Refute it at one input. -/
def fnExactIsInvolutionWrong : ChangeSpec := { name := "fnExactIsInvolution", fn := fun _ => fun
  | [d] => { results := [.lit (.bool false)], args := [d] }
  | _ => none }
def FnExactIsInvolutionWrongFalsely : Prop := fnExactIsInvolutionRow.holds Try.pinned (OpenSpec.ofChange fnExactIsInvolutionWrong)

/-- 'laws.FnExactSymmetryClass': WHATEVER THE INPUT: true; the input reads as it did. -/
def fnExactSymmetryClassSpec : ChangeSpec := { name := "fnExactSymmetryClass", fn := fun _ => fun
  | [d] => { results := [.lit (.bool true)], args := [d] }
  | _ => none }
def fnExactSymmetryClassRow : OpenClaim := { program := "ytlolnibclhlgoaa", sum := "75acda50a70502b9e4b38d200627b14befb263a1fdec25845693fccdacdc9f88", func := "loop.example/g03101/laws.FnExactSymmetryClass", spec := "fnExactSymmetryClass", unfollowed := true, recurses := true, apart := false }
def FnExactSymmetryClassSaid : Prop := fnExactSymmetryClassRow.holds Try.pinned (OpenSpec.ofChange fnExactSymmetryClassSpec)

/-- ITS FALSE NEIGHBOUR: 'it returns false'. Refute it at one input. -/
def fnExactSymmetryClassWrong : ChangeSpec := { name := "fnExactSymmetryClass", fn := fun _ => fun
  | [d] => { results := [.lit (.bool false)], args := [d] }
  | _ => none }
def FnExactSymmetryClassWrongFalsely : Prop := fnExactSymmetryClassRow.holds Try.pinned (OpenSpec.ofChange fnExactSymmetryClassWrong)

/-- 'laws.FnExactComplementPerm': WHATEVER THE INPUT: true; the input reads as it did. -/
def fnExactComplementPermSpec : ChangeSpec := { name := "fnExactComplementPerm", fn := fun _ => fun
  | [d] => { results := [.lit (.bool true)], args := [d] }
  | _ => none }
def fnExactComplementPermRow : OpenClaim := { program := "ytlolnibclhlgoaa", sum := "75acda50a70502b9e4b38d200627b14befb263a1fdec25845693fccdacdc9f88", func := "loop.example/g03101/laws.FnExactComplementPerm", spec := "fnExactComplementPerm", apart := false }
def FnExactComplementPermSaid : Prop := fnExactComplementPermRow.holds Try.pinned (OpenSpec.ofChange fnExactComplementPermSpec)

/-- ITS FALSE NEIGHBOUR: 'it returns false'. Refute it at one input. -/
def fnExactComplementPermWrong : ChangeSpec := { name := "fnExactComplementPerm", fn := fun _ => fun
  | [d] => { results := [.lit (.bool false)], args := [d] }
  | _ => none }
def FnExactComplementPermWrongFalsely : Prop := fnExactComplementPermRow.holds Try.pinned (OpenSpec.ofChange fnExactComplementPermWrong)

/-- 'laws.FnExactInversePerm': WHATEVER THE INPUT: true; the input reads as it did. -/
def fnExactInversePermSpec : ChangeSpec := { name := "fnExactInversePerm", fn := fun _ => fun
  | [d] => { results := [.lit (.bool true)], args := [d] }
  | _ => none }
def fnExactInversePermRow : OpenClaim := { program := "ytlolnibclhlgoaa", sum := "75acda50a70502b9e4b38d200627b14befb263a1fdec25845693fccdacdc9f88", func := "loop.example/g03101/laws.FnExactInversePerm", spec := "fnExactInversePerm", apart := false }
def FnExactInversePermSaid : Prop := fnExactInversePermRow.holds Try.pinned (OpenSpec.ofChange fnExactInversePermSpec)

/-- ITS FALSE NEIGHBOUR: 'it returns false'. Refute it at one input. -/
def fnExactInversePermWrong : ChangeSpec := { name := "fnExactInversePerm", fn := fun _ => fun
  | [d] => { results := [.lit (.bool false)], args := [d] }
  | _ => none }
def FnExactInversePermWrongFalsely : Prop := fnExactInversePermRow.holds Try.pinned (OpenSpec.ofChange fnExactInversePermWrong)

/-- 'laws.FnExactPermText': WHATEVER THE INPUT: true; the input reads as it did. -/
def fnExactPermTextSpec : ChangeSpec := { name := "fnExactPermText", fn := fun _ => fun
  | [d] => { results := [.lit (.bool true)], args := [d] }
  | _ => none }
def fnExactPermTextRow : OpenClaim := { program := "ytlolnibclhlgoaa", sum := "75acda50a70502b9e4b38d200627b14befb263a1fdec25845693fccdacdc9f88", func := "loop.example/g03101/laws.FnExactPermText", spec := "fnExactPermText", apart := false }
def FnExactPermTextSaid : Prop := fnExactPermTextRow.holds Try.pinned (OpenSpec.ofChange fnExactPermTextSpec)

/-- ITS FALSE NEIGHBOUR: 'it returns false'. Refute it at one input. -/
def fnExactPermTextWrong : ChangeSpec := { name := "fnExactPermText", fn := fun _ => fun
  | [d] => { results := [.lit (.bool false)], args := [d] }
  | _ => none }
def FnExactPermTextWrongFalsely : Prop := fnExactPermTextRow.holds Try.pinned (OpenSpec.ofChange fnExactPermTextWrong)

/-- 'laws.FnExactIsInterval': WHATEVER THE INPUT: true; the input reads as it did. -/
def fnExactIsIntervalSpec : ChangeSpec := { name := "fnExactIsInterval", fn := fun _ => fun
  | [d1, d2, d3] => { results := [.lit (.bool true)], args := [d1, d2, d3] }
  | _ => none }
def fnExactIsIntervalRow : OpenClaim := { program := "ytlolnibclhlgoaa", sum := "75acda50a70502b9e4b38d200627b14befb263a1fdec25845693fccdacdc9f88", func := "loop.example/g03101/laws.FnExactIsInterval", spec := "fnExactIsInterval", apart := false }
def FnExactIsIntervalSaid : Prop := fnExactIsIntervalRow.holds Try.pinned (OpenSpec.ofChange fnExactIsIntervalSpec)

/-- ITS FALSE NEIGHBOUR: 'it returns false'. Refute it at one input. -/
def fnExactIsIntervalWrong : ChangeSpec := { name := "fnExactIsInterval", fn := fun _ => fun
  | [d1, d2, d3] => { results := [.lit (.bool false)], args := [d1, d2, d3] }
  | _ => none }
def FnExactIsIntervalWrongFalsely : Prop := fnExactIsIntervalRow.holds Try.pinned (OpenSpec.ofChange fnExactIsIntervalWrong)

/-- 'laws.FnExactReversePerm': WHATEVER THE INPUT: true; the input reads as it did. -/
def fnExactReversePermSpec : ChangeSpec := { name := "fnExactReversePerm", fn := fun _ => fun
  | [d] => { results := [.lit (.bool true)], args := [d] }
  | _ => none }
def fnExactReversePermRow : OpenClaim := { program := "ytlolnibclhlgoaa", sum := "75acda50a70502b9e4b38d200627b14befb263a1fdec25845693fccdacdc9f88", func := "loop.example/g03101/laws.FnExactReversePerm", spec := "fnExactReversePerm", apart := false }
def FnExactReversePermSaid : Prop := fnExactReversePermRow.holds Try.pinned (OpenSpec.ofChange fnExactReversePermSpec)

/-- ITS FALSE NEIGHBOUR: 'it returns false'. Refute it at one input. -/
def fnExactReversePermWrong : ChangeSpec := { name := "fnExactReversePerm", fn := fun _ => fun
  | [d] => { results := [.lit (.bool false)], args := [d] }
  | _ => none }
def FnExactReversePermWrongFalsely : Prop := fnExactReversePermRow.holds Try.pinned (OpenSpec.ofChange fnExactReversePermWrong)

/- THE SECOND FORM. 'bulk': how many values and letters a reading holds, each counted each time it is reached (what is shared counts as often as it is met; a slice's spare places count too). A statement '..UptoSaid' is the law's where the arguments, and the package variables that the reading takes, are together of bulk at most 1048576: NARROWER than '..Said'. Prove '..Said' where nothing that the law and all that it calls make is longer than what came in: it says more and counts as full. Else prove '..UptoSaid'. A law counts once. -/
mutual
def uptoBulk {H : Type} : DataW H → Nat
  | .lit (.string bytes) => bytes.length + 1
  | .lit _ => 1
  | .nil => 1
  | .ptr d => uptoBulk d + 1
  | .slice elems spare => uptoBulkAll elems + uptoBulkAll spare + 1
  | .agg parts => uptoBulkAll parts + 1
  | .iface _ d => uptoBulk d + 1
  | .map entries => uptoBulkEntries entries + 1
  | .held _ => 1
def uptoBulkAll {H : Type} : List (DataW H) → Nat
  | [] => 0
  | d :: r => uptoBulk d + uptoBulkAll r
def uptoBulkEntries {H : Type} : List (Lit × DataW H) → Nat
  | [] => 0
  | x :: r => uptoBulkEntry x + uptoBulkEntries r
def uptoBulkEntry {H : Type} : Lit × DataW H → Nat
  | (.string bytes, d) => bytes.length + uptoBulk d + 1
  | (_, d) => uptoBulk d + 1
 end
def uptoSmall : (H : Type) → List (DataW H) → Bool := fun _ ds => decide (uptoBulkAll ds ≤ 1048576)
def OpenSpec.upto (s : _root_.Go.ChangeSpec) : _root_.Go.OpenSpec := { _root_.Go.OpenSpec.ofChange s with cond := some uptoSmall }

/-- 'laws.FnExactConstants', WHERE WHAT IT READS IS OF BULK AT MOST 1048576: true; the input reads as it did. -/
def fnExactConstantsUptoRow : OpenClaim := { program := "ytlolnibclhlgoaa", sum := "75acda50a70502b9e4b38d200627b14befb263a1fdec25845693fccdacdc9f88", func := "loop.example/g03101/laws.FnExactConstants", spec := "fnExactConstants", apart := false, narrowed := true }
def FnExactConstantsUptoSaid : Prop := fnExactConstantsUptoRow.holds Try.pinned (OpenSpec.upto fnExactConstantsSpec)

/-- 'laws.FnExactIdentityPerm', WHERE WHAT IT READS IS OF BULK AT MOST 1048576: true; the input reads as it did. -/
def fnExactIdentityPermUptoRow : OpenClaim := { program := "ytlolnibclhlgoaa", sum := "75acda50a70502b9e4b38d200627b14befb263a1fdec25845693fccdacdc9f88", func := "loop.example/g03101/laws.FnExactIdentityPerm", spec := "fnExactIdentityPerm", apart := false, narrowed := true }
def FnExactIdentityPermUptoSaid : Prop := fnExactIdentityPermUptoRow.holds Try.pinned (OpenSpec.upto fnExactIdentityPermSpec)

/-- 'laws.FnExactIsPerm', WHERE WHAT IT READS IS OF BULK AT MOST 1048576: true; the input reads as it did. -/
def fnExactIsPermUptoRow : OpenClaim := { program := "ytlolnibclhlgoaa", sum := "75acda50a70502b9e4b38d200627b14befb263a1fdec25845693fccdacdc9f88", func := "loop.example/g03101/laws.FnExactIsPerm", spec := "fnExactIsPerm", apart := false, narrowed := true }
def FnExactIsPermUptoSaid : Prop := fnExactIsPermUptoRow.holds Try.pinned (OpenSpec.upto fnExactIsPermSpec)

/-- 'laws.FnExactParsePerm', WHERE WHAT IT READS IS OF BULK AT MOST 1048576: true; the input reads as it did. -/
def fnExactParsePermUptoRow : OpenClaim := { program := "ytlolnibclhlgoaa", sum := "75acda50a70502b9e4b38d200627b14befb263a1fdec25845693fccdacdc9f88", func := "loop.example/g03101/laws.FnExactParsePerm", spec := "fnExactParsePerm", apart := false, narrowed := true }
def FnExactParsePermUptoSaid : Prop := fnExactParsePermUptoRow.holds Try.pinned (OpenSpec.upto fnExactParsePermSpec)

/-- 'laws.FnExactComposePerm', WHERE WHAT IT READS IS OF BULK AT MOST 1048576: true; the input reads as it did. -/
def fnExactComposePermUptoRow : OpenClaim := { program := "ytlolnibclhlgoaa", sum := "75acda50a70502b9e4b38d200627b14befb263a1fdec25845693fccdacdc9f88", func := "loop.example/g03101/laws.FnExactComposePerm", spec := "fnExactComposePerm", apart := false, narrowed := true }
def FnExactComposePermUptoSaid : Prop := fnExactComposePermUptoRow.holds Try.pinned (OpenSpec.upto fnExactComposePermSpec)

/-- 'laws.FnExactIsInvolution', WHERE WHAT IT READS IS OF BULK AT MOST 1048576: true; the input reads as it did. -/
def fnExactIsInvolutionUptoRow : OpenClaim := { program := "ytlolnibclhlgoaa", sum := "75acda50a70502b9e4b38d200627b14befb263a1fdec25845693fccdacdc9f88", func := "loop.example/g03101/laws.FnExactIsInvolution", spec := "fnExactIsInvolution", apart := false, narrowed := true }
def FnExactIsInvolutionUptoSaid : Prop := fnExactIsInvolutionUptoRow.holds Try.pinned (OpenSpec.upto fnExactIsInvolutionSpec)

/-- 'laws.FnExactSymmetryClass', WHERE WHAT IT READS IS OF BULK AT MOST 1048576: true; the input reads as it did. -/
def fnExactSymmetryClassUptoRow : OpenClaim := { program := "ytlolnibclhlgoaa", sum := "75acda50a70502b9e4b38d200627b14befb263a1fdec25845693fccdacdc9f88", func := "loop.example/g03101/laws.FnExactSymmetryClass", spec := "fnExactSymmetryClass", unfollowed := true, recurses := true, apart := false, narrowed := true }
def FnExactSymmetryClassUptoSaid : Prop := fnExactSymmetryClassUptoRow.holds Try.pinned (OpenSpec.upto fnExactSymmetryClassSpec)

/-- 'laws.FnExactComplementPerm', WHERE WHAT IT READS IS OF BULK AT MOST 1048576: true; the input reads as it did. -/
def fnExactComplementPermUptoRow : OpenClaim := { program := "ytlolnibclhlgoaa", sum := "75acda50a70502b9e4b38d200627b14befb263a1fdec25845693fccdacdc9f88", func := "loop.example/g03101/laws.FnExactComplementPerm", spec := "fnExactComplementPerm", apart := false, narrowed := true }
def FnExactComplementPermUptoSaid : Prop := fnExactComplementPermUptoRow.holds Try.pinned (OpenSpec.upto fnExactComplementPermSpec)

/-- 'laws.FnExactInversePerm', WHERE WHAT IT READS IS OF BULK AT MOST 1048576: true; the input reads as it did. -/
def fnExactInversePermUptoRow : OpenClaim := { program := "ytlolnibclhlgoaa", sum := "75acda50a70502b9e4b38d200627b14befb263a1fdec25845693fccdacdc9f88", func := "loop.example/g03101/laws.FnExactInversePerm", spec := "fnExactInversePerm", apart := false, narrowed := true }
def FnExactInversePermUptoSaid : Prop := fnExactInversePermUptoRow.holds Try.pinned (OpenSpec.upto fnExactInversePermSpec)

/-- 'laws.FnExactPermText', WHERE WHAT IT READS IS OF BULK AT MOST 1048576: true; the input reads as it did. -/
def fnExactPermTextUptoRow : OpenClaim := { program := "ytlolnibclhlgoaa", sum := "75acda50a70502b9e4b38d200627b14befb263a1fdec25845693fccdacdc9f88", func := "loop.example/g03101/laws.FnExactPermText", spec := "fnExactPermText", apart := false, narrowed := true }
def FnExactPermTextUptoSaid : Prop := fnExactPermTextUptoRow.holds Try.pinned (OpenSpec.upto fnExactPermTextSpec)

/-- 'laws.FnExactIsInterval', WHERE WHAT IT READS IS OF BULK AT MOST 1048576: true; the input reads as it did. -/
def fnExactIsIntervalUptoRow : OpenClaim := { program := "ytlolnibclhlgoaa", sum := "75acda50a70502b9e4b38d200627b14befb263a1fdec25845693fccdacdc9f88", func := "loop.example/g03101/laws.FnExactIsInterval", spec := "fnExactIsInterval", apart := false, narrowed := true }
def FnExactIsIntervalUptoSaid : Prop := fnExactIsIntervalUptoRow.holds Try.pinned (OpenSpec.upto fnExactIsIntervalSpec)

/-- 'laws.FnExactReversePerm', WHERE WHAT IT READS IS OF BULK AT MOST 1048576: true; the input reads as it did. -/
def fnExactReversePermUptoRow : OpenClaim := { program := "ytlolnibclhlgoaa", sum := "75acda50a70502b9e4b38d200627b14befb263a1fdec25845693fccdacdc9f88", func := "loop.example/g03101/laws.FnExactReversePerm", spec := "fnExactReversePerm", apart := false, narrowed := true }
def FnExactReversePermUptoSaid : Prop := fnExactReversePermUptoRow.holds Try.pinned (OpenSpec.upto fnExactReversePermSpec)

end Rows
end Go.Proofs.Ytlolnibclhlgoaa
