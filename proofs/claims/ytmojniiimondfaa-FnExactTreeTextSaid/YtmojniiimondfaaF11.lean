/- BeforePerm, of the program and of the reference. No condition. -/
import Derived.Test.YtmojniiimondfaaF10
namespace Go.Proofs.Ytmojniiimondfaa
open Go.RowKit
/-- BeforePerm -/
def befP (xs ys : List Int) : Bool := decide (Perm8 xs) && (decide (Perm8 ys) && decide (cmpP xs ys < 0))
theorem cmpL_cases (xs ys : List Int) : cmpL xs ys = -1 ∨ cmpL xs ys = 0 ∨ cmpL xs ys = 1 := by
  induction xs generalizing ys with
  | nil => cases ys <;> simp [cmpL]
  | cons x xs ih =>
    cases ys with
    | nil => simp [cmpL]
    | cons y ys =>
      simp only [cmpL]
      split
      · simp
      · split
        · simp
        · exact ih ys
theorem cmpP_cases (xs ys : List Int) : cmpP xs ys = -1 ∨ cmpP xs ys = 0 ∨ cmpP xs ys = 1 := by
  unfold cmpP
  split
  · simp
  · split
    · simp
    · exact cmpL_cases xs ys

end Go.Proofs.Ytmojniiimondfaa
