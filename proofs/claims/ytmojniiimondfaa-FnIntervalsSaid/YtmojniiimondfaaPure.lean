/- Plain facts on lists of integers: no program in sight. -/
import Derived.Test.YtmojniiimondfaaLib
namespace Go.Proofs.Ytmojniiimondfaa

/-- Each of the numbers 1 to the length, once. -/
def IsPermL (xs : List Int) : Prop := (∀ x ∈ xs, 1 ≤ x ∧ x ≤ (xs.length : Int)) ∧ xs.Nodup
/-- .. of at most eight numbers. -/
def Perm8 (xs : List Int) : Prop := xs.length ≤ 8 ∧ IsPermL xs
instance (xs : List Int) : Decidable (IsPermL xs) := inferInstanceAs (Decidable (_ ∧ _))
instance (xs : List Int) : Decidable (Perm8 xs) := inferInstanceAs (Decidable (_ ∧ _))

theorem mem_take_succ {xs : List Int} {k : Nat} {x : Int} (h : xs[k]? = some x) (y : Int) : y ∈ xs.take (k + 1) ↔ y ∈ xs.take k ∨ y = x := by
  rw [Go.Proofs.Ytmojniiimondfaa.take_snoc h]; simp
/-- The first k numbers are each from 1 to n, no two alike. -/
def Good (n : Nat) (xs : List Int) (k : Nat) : Prop := (∀ x ∈ xs.take k, 1 ≤ x ∧ x ≤ (n : Int)) ∧ (xs.take k).Nodup
theorem Good.zero (n : Nat) (xs : List Int) : Good n xs 0 := by simp [Good]
theorem Good.succ {n k : Nat} {xs : List Int} {x : Int} (h : Good n xs k) (hx : xs[k]? = some x) (h1 : 1 ≤ x) (h2 : x ≤ (n : Int)) (h3 : x ∉ xs.take k) : Good n xs (k + 1) := by
  unfold Good
  rw [take_snoc hx]
  refine ⟨fun y hy => ?_, ?_⟩
  · rcases List.mem_append.1 hy with hy | hy
    · exact h.1 y hy
    · simp at hy; omega
  · rw [List.nodup_append]
    refine ⟨h.2, by simp, ?_⟩
    intro a ha b hb; simp at hb; subst hb; intro hab; subst hab; exact h3 ha
theorem Good.full {n k : Nat} {xs : List Int} (h : Good n xs k) (hk : k = n) (hn : xs.length = n) : IsPermL xs := by
  subst hk; subst hn; unfold Good at h; rw [List.take_length] at h; exact h
theorem not_perm_range {n k : Nat} {xs : List Int} {x : Int} (hn : xs.length = n) (hx : xs[k]? = some x) (h : ¬ (1 ≤ x ∧ x ≤ (n : Int))) : ¬ IsPermL xs := by
  intro hp; subst hn; exact h (hp.1 x (List.mem_of_getElem? hx))
theorem not_perm_twice {k : Nat} {xs : List Int} {x : Int} (hx : xs[k]? = some x) (h : x ∈ xs.take k) : ¬ IsPermL xs := by
  intro hp
  have h1 := hp.2
  have e : xs = xs.take (k + 1) ++ xs.drop (k + 1) := (List.take_append_drop _ _).symm
  rw [e, take_snoc hx, List.nodup_append] at h1
  have h2 := h1.1
  rw [List.nodup_append] at h2
  exact h2.2.2 x h x (by simp) rfl
end Go.Proofs.Ytmojniiimondfaa
