/- The walks of the intervals of a permutation, of the program and of the reference. Condition: at most eight numbers from 0 to 2^20. -/
import Derived.Test.YtjhlianledgiiaaF07
import Derived.Test.YtjhlianledgiiaaII
namespace Go.Proofs.Ytjhlianledgiiaa
open Go.RowKit

/-- The intervals that begin at f, with 2 .. j + 1 places. -/
def ivRow (xs : List Int) (f : Nat) : Nat → List (List Int)
  | 0 => []
  | j + 1 => ivRow xs f j ++ (if j + 2 < xs.length ∧ runB xs f (j + 2) = true then [[(f : Int) + 1, (f : Int) + ((j : Int) + 2)]] else [])
def ivAll (xs : List Int) : Nat → List (List Int)
  | 0 => []
  | f + 1 => ivAll xs f ++ ivRow xs f (xs.length - 1 - f)
/-- All intervals of more than one place and not of all. -/
def ivs (xs : List Int) : List (List Int) := ivAll xs xs.length
theorem length_ivRow (xs : List Int) (f j : Nat) : (ivRow xs f j).length ≤ j := by
  induction j with
  | zero => simp [ivRow]
  | succ j ih => simp only [ivRow, List.length_append]; split <;> simp <;> omega
theorem length_ivAll (xs : List Int) (f : Nat) : (ivAll xs f).length ≤ f * xs.length := by
  induction f with
  | zero => simp [ivAll]
  | succ f ih =>
    simp only [ivAll, List.length_append]
    have := length_ivRow xs f (xs.length - 1 - f)
    rw [Nat.succ_mul]; omega
theorem ivAll_bd {xs : List Int} {n f : Nat} (hn : xs.length = n) (h8 : n ≤ 8) (hf : f ≤ n) : (ivAll xs f).length ≤ 64 := by
  have h1 := length_ivAll xs f
  have : f * xs.length ≤ 8 * 8 := Nat.mul_le_mul (by omega) (by omega)
  omega
theorem rows2_ivRow (xs : List Int) (f j : Nat) : ∀ r ∈ ivRow xs f j, r.length = 2 := by
  induction j with
  | zero => simp [ivRow]
  | succ j ih =>
    intro r hr
    simp only [ivRow] at hr
    rcases List.mem_append.1 hr with hr | hr
    · exact ih r hr
    · split at hr
      · simp at hr; subst hr; rfl
      · cases hr
theorem rows2_ivAll (xs : List Int) (f : Nat) : ∀ r ∈ ivAll xs f, r.length = 2 := by
  induction f with
  | zero => simp [ivAll]
  | succ f ih =>
    intro r hr
    simp only [ivAll] at hr
    rcases List.mem_append.1 hr with hr | hr
    · exact ih r hr
    · exact rows2_ivRow _ _ _ r hr

theorem OwnI.lit2 (w : World) (x y : Int) : OwnI (w.alloc (.cells #[.int .i64 x, .int .i64 y] 3)) w.heap.size (some ⟨w.heap.size, 0, none⟩) 2 2 [x, y] :=
  ⟨rfl, World.ownsRow_lit w #[.int .i64 x, .int .i64 y] 2 (Nat.le_refl _) (by unfold maxLen; omega) rfl⟩
theorem OwnII.start (w : World) : OwnII (w.alloc (.cells #[] 22)) w.heap.size (w.alloc (.cells #[] 22)).heap.size (some ⟨w.heap.size, 0, none⟩) 0 0 [] :=
  (OwnII.lit0 w).mono (Nat.le_refl _) (by simp)

def ivsP (xs : List Int) : List (List Int) := if Perm8 xs then ivs xs else []

theorem rows2_ivsP (xs : List Int) : ∀ r ∈ ivsP xs, r.length = 2 := by
  unfold ivsP; split
  · exact rows2_ivAll _ _
  · simp
theorem length_ivsP (xs : List Int) : (ivsP xs).length ≤ 64 := by
  unfold ivsP; split
  · rename_i h; exact ivAll_bd rfl h.1 (Nat.le_refl _)
  · simp
end Go.Proofs.Ytjhlianledgiiaa
