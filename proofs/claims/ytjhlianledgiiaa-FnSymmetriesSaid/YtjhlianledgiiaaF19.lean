/- IntervalsOf of the program; the size of the answer. No condition. -/
import Derived.Test.YtjhlianledgiiaaF12
import Derived.Test.YtjhlianledgiiaaF18
namespace Go.Proofs.Ytjhlianledgiiaa
open Go.RowKit

theorem bound_rows {xss : List (List Int)} {k m : Nat} (h1 : xss.length ≤ k) (h2 : ∀ xs ∈ xss, xs.length ≤ m) (h3 : k * m ≤ 2097152) (h4 : k ≤ 2097152) : totL xss ≤ 2097152 ∧ xss.length ≤ 2097152 := by
  have h := totL_bound h2
  have h5 : xss.length * m ≤ k * m := Nat.mul_le_mul_right m h1
  exact ⟨by omega, by omega⟩
theorem bound_ivsP (xs : List Int) : totL (ivsP xs) ≤ 2097152 ∧ (ivsP xs).length ≤ 2097152 :=
  bound_rows (length_ivsP xs) (fun r hr => by rw [rows2_ivsP xs r hr]; exact Nat.le_refl _) (by omega) (by omega)

end Go.Proofs.Ytjhlianledgiiaa
