/- The walks of IsPerm, of the program and of the reference. Condition: the length is at most 2^21. -/
import Derived.Test.YtmojniiimondfaaDoorPure
import Derived.Test.YtmojniiimondfaaDoorF01
namespace Go.Proofs.YtmojniiimondfaaDoor
open Go.RowKit

theorem infoBool : (Tryd.prog.info? 4).map (fun i => (i.zero, i.size, i.bytes)) = some (some (.bool false), 1, 1) := by kernel_rfl

/-- What 'seen' holds after the first k numbers. -/
def seenOf (n : Nat) (xs : List Int) (k : Nat) : List Value := (List.range (n + 1)).map fun (v : Nat) => .bool (decide ((v : Int) ∈ xs.take k))
theorem seenOf_zero (n : Nat) (xs : List Int) : seenOf n xs 0 = List.replicate (n + 1) (.bool false) := by
  apply List.ext_getElem?
  intro i
  by_cases hi : i < n + 1 <;> simp [seenOf, hi]
theorem seenOf_get {n k v : Nat} {xs : List Int} (hv : v ≤ n) : (seenOf n xs k)[v]? = some (.bool (decide ((v : Int) ∈ xs.take k))) := by
  simp [seenOf, show v < n + 1 by omega]
theorem seenOf_succ {n k v : Nat} {xs : List Int} (hx : xs[k]? = some (v : Int)) : (seenOf n xs k).set v (.bool true) = seenOf n xs (k + 1) := by
  apply List.ext_getElem?
  intro i
  rw [List.getElem?_set]
  by_cases hi : i < n + 1
  · by_cases e : v = i
    · subst e; simp [seenOf, hi, mem_take_succ hx]
    · have e' : ¬ ((i : Int) = (v : Int)) := by omega
      simp only [if_neg e]
      simp [seenOf, hi, mem_take_succ hx, e']
  · by_cases e : v = i
    · subst e; simp [seenOf, hi]
    · simp [seenOf, hi, e]

end Go.Proofs.YtmojniiimondfaaDoor
