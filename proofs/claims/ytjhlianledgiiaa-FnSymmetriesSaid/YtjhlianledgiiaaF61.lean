/- slices.Delete of one place of the call's own slice of integers; the pattern without a place, of the program. Conditions: as the names say. -/
import Derived.Test.YtjhlianledgiiaaF45
import Derived.Test.YtjhlianledgiiaaF06
import Derived.Lib.OwnBridge
import Derived.Lib.SlicesDelete
import Derived.Sort.WalkB12
import Derived.Lib.SliceRun
import Derived.Lib.Walk
import Derived.Deep.LoopGhost
namespace Go.Proofs.Ytjhlianledgiiaa
open Go.RowKit Go.Lib Go.Sort
/-- WithoutPlace -/
def WpOk (xs : List Int) (k : Int) : Prop := Perm8 xs ∧ 1 ≤ k ∧ k ≤ (xs.length : Int)
instance (xs : List Int) (k : Int) : Decidable (WpOk xs k) := inferInstanceAs (Decidable (_ ∧ _))
def wopP (xs : List Int) (k : Int) : List Int := if WpOk xs k then wo xs (k.toNat - 1) else []
theorem length_wopP (xs : List Int) (k : Int) : (wopP xs k).length ≤ 8 := by
  unfold wopP; split
  · rename_i h
    unfold wo; rw [length_pat, List.length_append, List.length_take, List.length_drop]; have := h.1.1; omega
  · simp

end Go.Proofs.Ytjhlianledgiiaa
