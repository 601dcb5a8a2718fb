/- The reference's search of occurrences: the walks. No condition. -/
import Derived.Test.YtmojniiimondfaaF27
import Derived.Test.YtmojniiimondfaaF20
namespace Go.Proofs.Ytmojniiimondfaa
open Go.RowKit

theorem Below.outLo {B : Nat} {w w' : World} (h : Below B w w') : Out B w.heap.size w w' := ⟨h.os, h.tape, h.output, h.size, fun k hk hr => h.block k (by omega)⟩
theorem ArgI.lo {w w' : World} {hi : Nat} {a : Option Addr} {n c : Nat} {xs : List Int} (h : ArgI w hi a n c xs) (hb : Below hi w w') : ArgI w' hi a n c xs := h.out (Below.outLo hb) (Nat.le_refl _)
theorem findK_mono {f : List Int → List (List Int)} {h : List Int} {s j k : Nat} (hjk : j ≤ k) : (findK f h s j).length ≤ (findK f h s k).length := by
  induction k with
  | zero => obtain rfl : j = 0 := by omega
            exact Nat.le_refl _
  | succ k ih =>
    rcases Nat.lt_or_ge k j with h1 | h1
    · obtain rfl : j = k + 1 := by omega
      exact Nat.le_refl _
    · have := ih h1
      simp only [findK, List.length_append]; omega

end Go.Proofs.Ytmojniiimondfaa
