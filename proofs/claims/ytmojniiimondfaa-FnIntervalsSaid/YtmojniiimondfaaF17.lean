/- The walks of the eight symmetries, of the program and of the reference; SymmetryOf. No condition. -/
import Derived.Test.YtmojniiimondfaaF05
namespace Go.Proofs.Ytmojniiimondfaa
open Go.RowKit

/-- One of eight symmetries. -/
def symB (a b c : Bool) (xs : List Int) : List Int :=
  let o := if a then inv xs else xs
  let o := if b then o.reverse else o
  if c then compl o else o
def symL (k : Nat) (xs : List Int) : List Int := symB (k % 2 == 1) (k / 2 % 2 == 1) (decide (4 ≤ k)) xs
theorem length_symB (a b c : Bool) (xs : List Int) : (symB a b c xs).length = xs.length := by
  cases a <;> cases b <;> cases c <;> simp [symB, length_inv, length_compl]
theorem length_symL (k : Nat) (xs : List Int) : (symL k xs).length = xs.length := length_symB _ _ _ _
theorem upto_set {n : Nat} {xs : List Int} {i : Nat} {x : Int} (h : Upto n xs) (h1 : 0 ≤ x) (h2 : x ≤ (n : Int)) : Upto n (xs.set i x) := by
  intro y hy
  rcases List.mem_or_eq_of_mem_set hy with hy | hy
  · exact h y hy
  · subst hy; exact ⟨h1, h2⟩
theorem upto_invTo (xs : List Int) (k : Nat) (hk : k ≤ xs.length) : Upto xs.length (invTo xs k) := by
  induction k with
  | zero => intro x hx; simp [invTo] at hx; omega
  | succ k ih => exact upto_set (ih (by omega)) (by omega) (by omega)
theorem upto_inv (xs : List Int) : Upto (inv xs).length (inv xs) := by
  rw [length_inv]; exact upto_invTo xs _ (Nat.le_refl _)
theorem upto_rev {xs : List Int} (h : Upto xs.length xs) : Upto xs.reverse.length xs.reverse := by
  rw [List.length_reverse]; exact fun x hx => h x (List.mem_reverse.1 hx)

/-- SymmetryOf -/
def SymOk (xs : List Int) (k : Int) : Prop := Perm8 xs ∧ 0 ≤ k ∧ k ≤ 7
instance (xs : List Int) (k : Int) : Decidable (SymOk xs k) := inferInstanceAs (Decidable (_ ∧ _))
def symP (xs : List Int) (k : Int) : List Int := if SymOk xs k then symL k.toNat xs else []
theorem length_symP (xs : List Int) (k : Int) : (symP xs k).length ≤ 8 := by
  unfold symP; split
  · rename_i h; rw [length_symL]; exact h.1.1
  · simp

end Go.Proofs.Ytmojniiimondfaa
