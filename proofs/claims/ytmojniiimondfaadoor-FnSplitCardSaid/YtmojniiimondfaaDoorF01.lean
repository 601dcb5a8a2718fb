/- The walks of the laws' own helpers on slices of integers: copy, compare, mark, look at the marks. Conditions: the lengths are at most 2^21. -/
import Derived.Test.YtmojniiimondfaaDoorLib
namespace Go.Proofs.YtmojniiimondfaaDoor
open Go.RowKit

theorem take_eq_succ {α : Type} {xs ys : List α} {k : Nat} {x y : α} (h : xs.take k = ys.take k) (hx : xs[k]? = some x) (hy : ys[k]? = some y) (hxy : x = y) : xs.take (k + 1) = ys.take (k + 1) := by
  rw [List.take_add_one, List.take_add_one, h, hx, hy, hxy]

/-- The marks' list. -/
def marks (k0 : Int) (n : Nat) : List Int := (List.range n).map fun (i : Nat) => k0 + (i : Int)
end Go.Proofs.YtmojniiimondfaaDoor
