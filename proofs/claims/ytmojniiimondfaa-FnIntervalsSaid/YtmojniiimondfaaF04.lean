/- The walks of the inverse and of the composition, of the program and of the reference. Condition: permutations. -/
import Derived.Test.YtmojniiimondfaaF02
namespace Go.Proofs.Ytmojniiimondfaa
open Go.RowKit

/-- The inverse after the first k places. -/
def invTo (xs : List Int) : Nat → List Int
  | 0 => List.replicate xs.length 0
  | k + 1 => (invTo xs k).set ((xs.getD k 0).toNat - 1) ((k : Int) + 1)
def inv (xs : List Int) : List Int := invTo xs xs.length
theorem length_invTo (xs : List Int) (k : Nat) : (invTo xs k).length = xs.length := by
  induction k with
  | zero => simp [invTo]
  | succ k ih => simp [invTo, ih]
theorem length_inv (xs : List Int) : (inv xs).length = xs.length := length_invTo _ _
theorem invTo_succ {xs : List Int} {k v : Nat} (h : xs[k]? = some (v : Int)) : invTo xs (k + 1) = (invTo xs k).set (v - 1) ((k : Int) + 1) := by
  simp [invTo, h]
theorem perm_at {xs : List Int} {k n : Nat} {x : Int} (hp : IsPermL xs) (hn : xs.length = n) (h : xs[k]? = some x) : ∃ v : Nat, x = (v : Int) ∧ 1 ≤ v ∧ v ≤ n := by
  have := hp.1 x (List.mem_of_getElem? h)
  exact ⟨x.toNat, by omega, by omega, by omega⟩

/-- InversePerm. -/
def invP (xs : List Int) : List Int := if Perm8 xs then inv xs else []
theorem length_invP (xs : List Int) : (invP xs).length ≤ 8 := by
  unfold invP; split
  · rename_i h; rw [length_inv]; exact h.1
  · simp

theorem OwnI.lit0' {w : World} {B : Nat} (hB : B ≤ w.heap.size) : OwnI (w.alloc (.cells #[] 3)) B (some ⟨w.heap.size, 0, none⟩) 0 0 [] := (OwnI.lit0 w).mono hB

/-- p at q's numbers -/
def comp (p q : List Int) : List Int := q.map fun v => p.getD (v.toNat - 1) 0
theorem length_comp (p q : List Int) : (comp p q).length = q.length := by simp [comp]
theorem comp_snoc {p q : List Int} {k v : Nat} {y : Int} (h : q[k]? = some (v : Int)) (hy : p[v - 1]? = some y) : comp p (q.take (k + 1)) = comp p (q.take k) ++ [y] := by
  unfold comp; rw [take_snoc h]; simp [hy]

/-- ComposePerm -/
def ComposeOk (p q : List Int) : Prop := Perm8 p ∧ Perm8 q ∧ p.length = q.length
instance (p q : List Int) : Decidable (ComposeOk p q) := inferInstanceAs (Decidable (_ ∧ _))
def compP (p q : List Int) : List Int := if ComposeOk p q then comp p q else []
theorem length_compP (p q : List Int) : (compP p q).length ≤ 8 := by
  unfold compP; split
  · rename_i h; rw [length_comp]; exact h.2.1.1
  · simp

end Go.Proofs.Ytmojniiimondfaa
