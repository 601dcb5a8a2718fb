/- Inflation of a permutation, in plain lists; the program's inflate. Conditions: the sizes. -/
import Derived.Test.YtjhlianledgiiaaF33
namespace Go.Proofs.Ytjhlianledgiiaa
open Go.RowKit

/-- The lengths of the parts below v, of the first i. -/
def bsT (P : List Int) (L : List (List Int)) (v : Int) : Nat → Nat
  | 0 => 0
  | i + 1 => bsT P L v i + (if P.getD i 0 < v then (L.getD i []).length else 0)
/-- The first k parts, each raised. -/
def infK (P : List Int) (L : List (List Int)) : Nat → List Int
  | 0 => []
  | k + 1 => infK P L k ++ raise (L.getD k []) (bsT P L (P.getD k 0) P.length : Int)
theorem length_infK (P : List Int) (L : List (List Int)) (k : Nat) (hk : k ≤ L.length) : (infK P L k).length = totL (L.take k) := by
  induction k with
  | zero => simp [infK, totL]
  | succ k ih =>
    have h : L[k]? = some _ := List.getElem?_eq_getElem (by omega)
    rw [totL_snoc h]
    simp only [infK, List.length_append, length_raise, ih (by omega), getD_of h]
theorem bsT_le (P : List Int) (L : List (List Int)) (v : Int) (i : Nat) (hi : i ≤ L.length) : bsT P L v i ≤ totL (L.take i) := by
  induction i with
  | zero => simp [bsT]
  | succ i ih =>
    have h : L[i]? = some _ := List.getElem?_eq_getElem (by omega)
    rw [totL_snoc h]
    simp only [bsT, getD_of h]
    have := ih (by omega)
    split <;> omega
theorem bsT_succ {P : List Int} {L : List (List Int)} {v : Int} {i : Nat} {x : Int} {r : List Int} (hx : P[i]? = some x) (hr : L[i]? = some r) : bsT P L v (i + 1) = bsT P L v i + (if x < v then r.length else 0) := by
  simp only [bsT, getD_of hx, getD_of hr]
theorem infK_succ {P : List Int} {L : List (List Int)} {k : Nat} {x : Int} {r : List Int} (hx : P[k]? = some x) (hr : L[k]? = some r) : infK P L (k + 1) = infK P L k ++ raise r (bsT P L x P.length : Int) := by
  simp only [infK, getD_of hx, getD_of hr]

end Go.Proofs.Ytjhlianledgiiaa
