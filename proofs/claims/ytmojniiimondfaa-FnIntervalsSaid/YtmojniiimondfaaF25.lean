/- IsOccurrence: the walks of the program's and the reference's functions. No condition. -/
import Derived.Test.YtmojniiimondfaaF09
import Derived.Test.YtmojniiimondfaaF05
namespace Go.Proofs.Ytmojniiimondfaa
open Go.RowKit

/-- The numbers at places. -/
def atP (P L : List Int) : List Int := L.map fun x => P.getD (x - 1).toNat 0
theorem length_atP (P L : List Int) : (atP P L).length = L.length := by simp [atP]
def Pl (n : Nat) (L : List Int) : Prop := ∀ x ∈ L, 1 ≤ x ∧ x ≤ (n : Int)
/-- The first k places rise, and are places of n numbers. -/
def incB (n : Nat) (L : List Int) : Nat → Bool
  | 0 => true
  | k + 1 => incB n L k && (decide (1 ≤ L.getD k 0 ∧ L.getD k 0 ≤ (n : Int)) && (decide (k = 0) || decide (L.getD (k - 1) 0 < L.getD k 0)))
theorem incB_pl {n : Nat} {L : List Int} {k : Nat} (hk : k ≤ L.length) (h : incB n L k = true) : Pl n (L.take k) := by
  induction k with
  | zero => simp [Pl]
  | succ k ih =>
    simp only [incB, Bool.and_eq_true] at h
    have hx : L[k]? = some _ := List.getElem?_eq_getElem (by omega)
    intro x hx'
    rcases (mem_take_succ hx x).1 hx' with h1 | h1
    · exact ih (by omega) h.1 x h1
    · have := of_decide_eq_true h.2.1
      rw [getD_of hx] at this
      rw [h1]; exact this
theorem incB_false {n : Nat} {L : List Int} {k m : Nat} (hkm : k ≤ m) (h : incB n L k = false) : incB n L m = false := by
  induction m with
  | zero => obtain rfl : k = 0 := by omega
            exact h
  | succ m ih =>
    rcases Nat.lt_or_ge m k with h1 | h1
    · obtain rfl : k = m + 1 := by omega
      exact h
    · simp only [incB, ih h1, Bool.false_and]
theorem incB_succ {n : Nat} {L : List Int} {k : Nat} {x : Int} (hx : L[k]? = some x) : incB n L (k + 1) = (incB n L k && (decide (1 ≤ x ∧ x ≤ (n : Int)) && (decide (k = 0) || decide (L.getD (k - 1) 0 < x)))) := by
  simp only [incB, getD_of hx]

end Go.Proofs.Ytmojniiimondfaa
