/- The walks of the order of permutations: cmp.Compare, slices.Compare, cmp.Or, comparePerms; the reference's l2Before. Condition: the lengths are at most 2^21. -/
import Derived.Test.YtmojniiimondfaaF02
namespace Go.Proofs.Ytmojniiimondfaa
open Go.RowKit

theorem dropNil {l : List Int} {k : Nat} (h : l.length ≤ k) : l.drop k = [] := List.drop_eq_nil_of_le h
def cmpI (x y : Int) : Int := if x < y then -1 else if y < x then 1 else 0
def cmpL : List Int → List Int → Int
  | [], [] => 0
  | [], _ :: _ => -1
  | _ :: _, [] => 1
  | x :: xs, y :: ys => if x < y then -1 else if y < x then 1 else cmpL xs ys
/-- By length, then by the first number that differs. -/
def cmpP (xs ys : List Int) : Int := if xs.length < ys.length then -1 else if ys.length < xs.length then 1 else cmpL xs ys
theorem cmpL_same (xs : List Int) : cmpL xs xs = 0 := by
  induction xs with
  | nil => rfl
  | cons x xs ih => simp [cmpL, ih]
theorem cmpL_drop {xs ys : List Int} {k : Nat} (h : xs.take k = ys.take k) (h1 : k ≤ xs.length) (h2 : k ≤ ys.length) : cmpL xs ys = cmpL (xs.drop k) (ys.drop k) := by
  induction k generalizing xs ys with
  | zero => simp
  | succ k ih =>
    cases xs with
    | nil => simp at h1
    | cons x xs =>
      cases ys with
      | nil => simp at h2
      | cons y ys =>
        simp only [List.take_succ_cons, List.cons.injEq] at h
        obtain ⟨rfl, h⟩ := h
        simp only [List.length_cons] at h1 h2
        simp [cmpL, ih h (by omega) (by omega)]
theorem drop_cons {xs : List Int} {k : Nat} {x : Int} (h : xs[k]? = some x) : xs.drop k = x :: xs.drop (k + 1) := by
  obtain ⟨h1, h2⟩ := List.getElem?_eq_some_iff.1 h
  rw [List.drop_eq_getElem_cons h1, h2]
theorem cmpL_at {xs ys : List Int} {k : Nat} {x y : Int} (h : xs.take k = ys.take k) (hx : xs[k]? = some x) (hy : ys[k]? = some y) :
    cmpL xs ys = if x < y then -1 else if y < x then 1 else cmpL (xs.drop (k + 1)) (ys.drop (k + 1)) := by
  have h1 := (List.getElem?_eq_some_iff.1 hx).1
  have h2 := (List.getElem?_eq_some_iff.1 hy).1
  rw [cmpL_drop h (by omega) (by omega), drop_cons hx, drop_cons hy]
  rfl
theorem take_eq_succ' {α : Type} {xs ys : List α} {k : Nat} {x : α} (h : xs.take k = ys.take k) (hx : xs[k]? = some x) (hy : ys[k]? = some x) : xs.take (k + 1) = ys.take (k + 1) := by
  rw [List.take_add_one, List.take_add_one, h, hx, hy]

def orL : List Int → Int
  | [] => 0
  | x :: xs => if x = 0 then orL xs else x
theorem orL_at {xs : List Int} {k : Nat} {x : Int} (h : xs[k]? = some x) : orL (xs.drop k) = if x = 0 then orL (xs.drop (k + 1)) else x := by
  rw [drop_cons h]; rfl

theorem cmpP_or (xs ys : List Int) : orL [cmpI (xs.length : Int) (ys.length : Int), cmpL xs ys] = cmpP xs ys := by
  unfold cmpP cmpI
  by_cases h1 : xs.length < ys.length
  · simp [orL, h1]
  · by_cases h2 : ys.length < xs.length
    · simp [orL, h1, h2]
    · simp only [orL, h1, h2, Int.ofNat_lt, if_false]
      by_cases h3 : cmpL xs ys = 0 <;> simp [h3]
theorem cells_two {w : World} {x y : Int} : Ints (w.alloc (.cells #[.int .i64 x, .int .i64 y] 3)) (some ⟨w.heap.size, 0, none⟩) [x, y] := by
  intro i v hv
  refine ⟨w.heap.size, 0, rfl, ?_⟩
  match i, hv with
  | 0, hv => simp at hv; subst hv; simp
  | 1, hv => simp at hv; subst hv; simp

end Go.Proofs.Ytmojniiimondfaa
