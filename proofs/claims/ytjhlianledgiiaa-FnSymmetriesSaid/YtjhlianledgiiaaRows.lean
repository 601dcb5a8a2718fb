/-
  No cell of these rows narrows 'for every input' (looked for: loops, veiled, ifaces, maps, wideKeys, modest, calm, conditions, laid).
  DERIVED. THE GIVEN ROWS OF THIS SEAT. 5 by the template 'for every input the law returns true; each argument reads behind the call as it read before'; 0 by the template 'total and deterministic' (their statements: YtjhlianledgiiaaTotals.lean).
  GIVEN WITH THE SEED: the statements are not yours to turn. If you find one false, say at which input.
  Laid BY PROGRAM, IN A SANDBOX (cutbox-rows.mjs): the forced cells as the released guide's own fill.sh prints them over the translation 84613f91737c0189… (all of the seat's roots in one cut). By AI agents, Wed Nov 11 2026. No macro, syntax, notation, axiom, sorry.
-/
import Derived.Test.YtjhlianledgiiaaChecked
import GoSem.Claim
import GoSem.ClaimJoined
import GoSem.ClaimMapViews
import Derived.JoinedTies
import Derived.KernelRfl
namespace Go.Proofs.Ytjhlianledgiiaa
/- THE CELL 'sum', in the pinned program and in every row, IS THE sha256 OF THE DUMP (.gsa) THAT YtjhlianledgiiaaProg.lean LOADS. Nothing in Lean hashes anything: it is a label: what it is worth is what the hold of that sum in a sandbox is worth. -/
noncomputable def Try.pinned : Pinned := { name := "ytjhlianledgiiaa", sum := "84613f91737c018993fcc0b18a3307ac2ee5bf3cee44bc442b0c642fe6e3bb73", checked := Try.checked }
namespace Rows
def none {H : Type} : Left H := { results := [], args := [] }

/-- 'laws.FnExactSplitPerm': WHATEVER THE INPUT: true; the input reads as it did. -/
def fnExactSplitPermSpec : ChangeSpec := { name := "fnExactSplitPerm", fn := fun _ => fun
  | [d] => { results := [.lit (.bool true)], args := [d] }
  | _ => none }
def fnExactSplitPermRow : OpenClaim := { program := "ytjhlianledgiiaa", sum := "84613f91737c018993fcc0b18a3307ac2ee5bf3cee44bc442b0c642fe6e3bb73", func := "loop.example/g03101/laws.FnExactSplitPerm", spec := "fnExactSplitPerm", apart := false }
def FnExactSplitPermSaid : Prop := fnExactSplitPermRow.holds Try.pinned (OpenSpec.ofChange fnExactSplitPermSpec)

/-- ITS FALSE NEIGHBOUR: 'it returns false'. Refute it at one input. -/
def fnExactSplitPermWrong : ChangeSpec := { name := "fnExactSplitPerm", fn := fun _ => fun
  | [d] => { results := [.lit (.bool false)], args := [d] }
  | _ => none }
def FnExactSplitPermWrongFalsely : Prop := fnExactSplitPermRow.holds Try.pinned (OpenSpec.ofChange fnExactSplitPermWrong)

/-- 'laws.FnExactIsSeparable': WHATEVER THE INPUT: true; the input reads as it did. -/
def fnExactIsSeparableSpec : ChangeSpec := { name := "fnExactIsSeparable", fn := fun _ => fun
  | [d] => { results := [.lit (.bool true)], args := [d] }
  | _ => none }
def fnExactIsSeparableRow : OpenClaim := { program := "ytjhlianledgiiaa", sum := "84613f91737c018993fcc0b18a3307ac2ee5bf3cee44bc442b0c642fe6e3bb73", func := "loop.example/g03101/laws.FnExactIsSeparable", spec := "fnExactIsSeparable", unfollowed := true, recurses := true, apart := false }
def FnExactIsSeparableSaid : Prop := fnExactIsSeparableRow.holds Try.pinned (OpenSpec.ofChange fnExactIsSeparableSpec)

/-- ITS FALSE NEIGHBOUR: 'it returns false'. Refute it at one input. -/
def fnExactIsSeparableWrong : ChangeSpec := { name := "fnExactIsSeparable", fn := fun _ => fun
  | [d] => { results := [.lit (.bool false)], args := [d] }
  | _ => none }
def FnExactIsSeparableWrongFalsely : Prop := fnExactIsSeparableRow.holds Try.pinned (OpenSpec.ofChange fnExactIsSeparableWrong)

/-- 'laws.FnExactPatternsIn': WHATEVER THE INPUT: true; the input reads as it did. -/
def fnExactPatternsInSpec : ChangeSpec := { name := "fnExactPatternsIn", fn := fun _ => fun
  | [d1, d2] => { results := [.lit (.bool true)], args := [d1, d2] }
  | _ => none }
def fnExactPatternsInRow : OpenClaim := { program := "ytjhlianledgiiaa", sum := "84613f91737c018993fcc0b18a3307ac2ee5bf3cee44bc442b0c642fe6e3bb73", func := "loop.example/g03101/laws.FnExactPatternsIn", spec := "fnExactPatternsIn", unfollowed := true, recurses := true, apart := false }
def FnExactPatternsInSaid : Prop := fnExactPatternsInRow.holds Try.pinned (OpenSpec.ofChange fnExactPatternsInSpec)

/-- ITS FALSE NEIGHBOUR: 'it returns false'. Refute it at one input. -/
def fnExactPatternsInWrong : ChangeSpec := { name := "fnExactPatternsIn", fn := fun _ => fun
  | [d1, d2] => { results := [.lit (.bool false)], args := [d1, d2] }
  | _ => none }
def FnExactPatternsInWrongFalsely : Prop := fnExactPatternsInRow.holds Try.pinned (OpenSpec.ofChange fnExactPatternsInWrong)

/-- 'laws.FnSymmetries': WHATEVER THE INPUT: true; the input reads as it did. -/
def fnSymmetriesSpec : ChangeSpec := { name := "fnSymmetries", fn := fun _ => fun
  | [d] => { results := [.lit (.bool true)], args := [d] }
  | _ => none }
def fnSymmetriesRow : OpenClaim := { program := "ytjhlianledgiiaa", sum := "84613f91737c018993fcc0b18a3307ac2ee5bf3cee44bc442b0c642fe6e3bb73", func := "loop.example/g03101/laws.FnSymmetries", spec := "fnSymmetries", unfollowed := true, recurses := true, apart := false }
def FnSymmetriesSaid : Prop := fnSymmetriesRow.holds Try.pinned (OpenSpec.ofChange fnSymmetriesSpec)

/-- ITS FALSE NEIGHBOUR: 'it returns false'. Refute it at one input. -/
def fnSymmetriesWrong : ChangeSpec := { name := "fnSymmetries", fn := fun _ => fun
  | [d] => { results := [.lit (.bool false)], args := [d] }
  | _ => none }
def FnSymmetriesWrongFalsely : Prop := fnSymmetriesRow.holds Try.pinned (OpenSpec.ofChange fnSymmetriesWrong)

/-- 'laws.FnPerms': WHATEVER THE INPUT: true; the input reads as it did. -/
def fnPermsSpec : ChangeSpec := { name := "fnPerms", fn := fun _ => fun
  | [d] => { results := [.lit (.bool true)], args := [d] }
  | _ => none }
def fnPermsRow : OpenClaim := { program := "ytjhlianledgiiaa", sum := "84613f91737c018993fcc0b18a3307ac2ee5bf3cee44bc442b0c642fe6e3bb73", func := "loop.example/g03101/laws.FnPerms", spec := "fnPerms", recurses := true, apart := false }
def FnPermsSaid : Prop := fnPermsRow.holds Try.pinned (OpenSpec.ofChange fnPermsSpec)

/-- ITS FALSE NEIGHBOUR: 'it returns false'. Refute it at one input. -/
def fnPermsWrong : ChangeSpec := { name := "fnPerms", fn := fun _ => fun
  | [d] => { results := [.lit (.bool false)], args := [d] }
  | _ => none }
def FnPermsWrongFalsely : Prop := fnPermsRow.holds Try.pinned (OpenSpec.ofChange fnPermsWrong)

/- THE SECOND FORM. 'bulk': how many values and letters a reading holds, each counted each time it is reached (what is shared counts as often as it is met; a slice's spare places count too). A statement '..UptoSaid' is the law's where the arguments, and the package variables that the reading takes, are together of bulk at most 1048576: NARROWER than '..Said'. Prove '..Said' where nothing that the law and all that it calls make is longer than what came in: it says more and counts as full. Else prove '..UptoSaid'. A law counts once. -/
mutual
def uptoBulk {H : Type} : DataW H → Nat
  | .lit (.string bytes) => bytes.length + 1
  | .lit _ => 1
  | .nil => 1
  | .ptr d => uptoBulk d + 1
  | .slice elems spare => uptoBulkAll elems + uptoBulkAll spare + 1
  | .agg parts => uptoBulkAll parts + 1
  | .iface _ d => uptoBulk d + 1
  | .map entries => uptoBulkEntries entries + 1
  | .held _ => 1
def uptoBulkAll {H : Type} : List (DataW H) → Nat
  | [] => 0
  | d :: r => uptoBulk d + uptoBulkAll r
def uptoBulkEntries {H : Type} : List (Lit × DataW H) → Nat
  | [] => 0
  | x :: r => uptoBulkEntry x + uptoBulkEntries r
def uptoBulkEntry {H : Type} : Lit × DataW H → Nat
  | (.string bytes, d) => bytes.length + uptoBulk d + 1
  | (_, d) => uptoBulk d + 1
 end
def uptoSmall : (H : Type) → List (DataW H) → Bool := fun _ ds => decide (uptoBulkAll ds ≤ 1048576)
def OpenSpec.upto (s : _root_.Go.ChangeSpec) : _root_.Go.OpenSpec := { _root_.Go.OpenSpec.ofChange s with cond := some uptoSmall }

/-- 'laws.FnExactSplitPerm', WHERE WHAT IT READS IS OF BULK AT MOST 1048576: true; the input reads as it did. -/
def fnExactSplitPermUptoRow : OpenClaim := { program := "ytjhlianledgiiaa", sum := "84613f91737c018993fcc0b18a3307ac2ee5bf3cee44bc442b0c642fe6e3bb73", func := "loop.example/g03101/laws.FnExactSplitPerm", spec := "fnExactSplitPerm", apart := false, narrowed := true }
def FnExactSplitPermUptoSaid : Prop := fnExactSplitPermUptoRow.holds Try.pinned (OpenSpec.upto fnExactSplitPermSpec)

/-- 'laws.FnExactIsSeparable', WHERE WHAT IT READS IS OF BULK AT MOST 1048576: true; the input reads as it did. -/
def fnExactIsSeparableUptoRow : OpenClaim := { program := "ytjhlianledgiiaa", sum := "84613f91737c018993fcc0b18a3307ac2ee5bf3cee44bc442b0c642fe6e3bb73", func := "loop.example/g03101/laws.FnExactIsSeparable", spec := "fnExactIsSeparable", unfollowed := true, recurses := true, apart := false, narrowed := true }
def FnExactIsSeparableUptoSaid : Prop := fnExactIsSeparableUptoRow.holds Try.pinned (OpenSpec.upto fnExactIsSeparableSpec)

/-- 'laws.FnExactPatternsIn', WHERE WHAT IT READS IS OF BULK AT MOST 1048576: true; the input reads as it did. -/
def fnExactPatternsInUptoRow : OpenClaim := { program := "ytjhlianledgiiaa", sum := "84613f91737c018993fcc0b18a3307ac2ee5bf3cee44bc442b0c642fe6e3bb73", func := "loop.example/g03101/laws.FnExactPatternsIn", spec := "fnExactPatternsIn", unfollowed := true, recurses := true, apart := false, narrowed := true }
def FnExactPatternsInUptoSaid : Prop := fnExactPatternsInUptoRow.holds Try.pinned (OpenSpec.upto fnExactPatternsInSpec)

/-- 'laws.FnSymmetries', WHERE WHAT IT READS IS OF BULK AT MOST 1048576: true; the input reads as it did. -/
def fnSymmetriesUptoRow : OpenClaim := { program := "ytjhlianledgiiaa", sum := "84613f91737c018993fcc0b18a3307ac2ee5bf3cee44bc442b0c642fe6e3bb73", func := "loop.example/g03101/laws.FnSymmetries", spec := "fnSymmetries", unfollowed := true, recurses := true, apart := false, narrowed := true }
def FnSymmetriesUptoSaid : Prop := fnSymmetriesUptoRow.holds Try.pinned (OpenSpec.upto fnSymmetriesSpec)

/-- 'laws.FnPerms', WHERE WHAT IT READS IS OF BULK AT MOST 1048576: true; the input reads as it did. -/
def fnPermsUptoRow : OpenClaim := { program := "ytjhlianledgiiaa", sum := "84613f91737c018993fcc0b18a3307ac2ee5bf3cee44bc442b0c642fe6e3bb73", func := "loop.example/g03101/laws.FnPerms", spec := "fnPerms", recurses := true, apart := false, narrowed := true }
def FnPermsUptoSaid : Prop := fnPermsUptoRow.holds Try.pinned (OpenSpec.upto fnPermsSpec)

end Rows
end Go.Proofs.Ytjhlianledgiiaa
