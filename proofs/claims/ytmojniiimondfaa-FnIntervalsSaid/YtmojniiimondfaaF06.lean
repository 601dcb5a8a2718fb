/- The walks of ReversePerm, ComplementPerm, IsInvolution, ComposePerm's reference. No condition. -/
import Derived.Test.YtmojniiimondfaaF05
namespace Go.Proofs.Ytmojniiimondfaa
open Go.RowKit

def revP (xs : List Int) : List Int := if Perm8 xs then xs.reverse else []
theorem length_revP (xs : List Int) : (revP xs).length ≤ 8 := by
  unfold revP; split
  · rename_i h; rw [List.length_reverse]; exact h.1
  · simp
def complP (xs : List Int) : List Int := if Perm8 xs then compl xs else []
theorem length_complP (xs : List Int) : (complP xs).length ≤ 8 := by
  unfold complP; split
  · rename_i h; rw [length_compl]; exact h.1
  · simp

end Go.Proofs.Ytmojniiimondfaa
