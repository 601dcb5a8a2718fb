/- The sum parts and the skew parts of a permutation: the walks, of the program and of the reference, and that both are one. No condition. -/
import Derived.Test.YtjndgppekckhbaaF19
import Derived.Test.YtjndgppekckhbaaF09
import Derived.Test.YtjndgppekckhbaaF15
import Derived.Test.YtjndgppekckhbaaF06
namespace Go.Proofs.Ytjndgppekckhbaa
open Go.RowKit

/-- The greatest of the first k, at least 0. -/
def mostAt (xs : List Int) : Nat → Int
  | 0 => 0
  | k + 1 => max (mostAt xs k) (xs.getD k 0)
def fromAt (xs : List Int) : Nat → Nat
  | 0 => 0
  | k + 1 => if mostAt xs (k + 1) = (k : Int) + 1 then k + 1 else fromAt xs k
/-- The parts that end at place k or before; g makes a part of its place and its numbers. -/
def partsG (g : Nat → List Int → List Int) (xs : List Int) : Nat → List (List Int)
  | 0 => []
  | k + 1 => partsG g xs k ++ (if mostAt xs (k + 1) = (k : Int) + 1 then [g (fromAt xs k) ((xs.drop (fromAt xs k)).take (k + 1 - fromAt xs k))] else [])
def sumPs (xs : List Int) : List (List Int) := partsG (fun _ l => pat l) xs xs.length

theorem fromAt_le (xs : List Int) (k : Nat) : fromAt xs k ≤ k := by
  induction k with
  | zero => exact Nat.le_refl _
  | succ k ih => simp only [fromAt]; split <;> omega
theorem most_from (xs : List Int) (k : Nat) : mostAt xs (fromAt xs k) = (fromAt xs k : Int) := by
  induction k with
  | zero => rfl
  | succ k ih =>
    simp only [fromAt]; split
    · rename_i h; rw [h]; omega
    · exact ih
theorem le_most {xs : List Int} {k : Nat} (hk : k ≤ xs.length) : ∀ x ∈ xs.take k, x ≤ mostAt xs k := by
  induction k with
  | zero => simp
  | succ k ih =>
    have hx : xs[k]? = some _ := List.getElem?_eq_getElem (by omega)
    intro x hx'
    rcases (mem_take_succ hx x).1 hx' with h | h
    · have := ih (by omega) x h
      simp only [mostAt]; omega
    · simp only [mostAt, getD_of hx]; omega
theorem most_bd {b : Nat} {xs : List Int} (h : Upb b xs) (k : Nat) : 0 ≤ mostAt xs k ∧ mostAt xs k ≤ (b : Int) := by
  induction k with
  | zero => simp [mostAt]
  | succ k ih =>
    have h1 := h.getD k
    simp only [mostAt]; omega
theorem nodup_len_le (m : Nat) : ∀ (l : List Int) (a : Int), l.Nodup → (∀ x ∈ l, a < x ∧ x ≤ a + (m : Int)) → l.length ≤ m := by
  induction m with
  | zero =>
    intro l a _ h
    cases l with
    | nil => simp
    | cons x l => have := h x (by simp); omega
  | succ m ih =>
    intro l a hn h
    by_cases hm : a + (m : Int) + 1 ∈ l
    · have h1 := ih (l.erase (a + (m : Int) + 1)) a (hn.erase _) (fun x hx => by
        have h2 := (hn.mem_erase_iff).1 hx
        have h3 := h x h2.2
        have h4 := h2.1
        omega)
      rw [List.length_erase_of_mem hm] at h1
      omega
    · have h1 := ih l a hn (fun x hx => by
        have h3 := h x hx
        have h4 : x ≠ a + (m : Int) + 1 := fun e => hm (e ▸ hx)
        omega)
      omega
/-- A part holds the numbers that follow its place. -/
theorem part_range {xs : List Int} (hp : IsPermL xs) {k : Nat} (hk : k < xs.length) (hm : mostAt xs (k + 1) = (k : Int) + 1) :
    ((xs.drop (fromAt xs k)).take (k + 1 - fromAt xs k)).Nodup ∧ ((xs.drop (fromAt xs k)).take (k + 1 - fromAt xs k)).length = k + 1 - fromAt xs k ∧
      ∀ x ∈ (xs.drop (fromAt xs k)).take (k + 1 - fromAt xs k), (fromAt xs k : Int) < x ∧ x ≤ (k : Int) + 1 := by
  have hf := fromAt_le xs k
  have hmf := most_from xs k
  generalize fromAt xs k = f at *
  have e : xs.take (k + 1) = xs.take f ++ (xs.drop f).take (k + 1 - f) := by
    have h1 : (xs.drop f).take (k + 1 - f) = (xs.take (k + 1)).drop f := by rw [List.drop_take]
    rw [h1]
    have h2 : xs.take f = (xs.take (k + 1)).take f := by rw [List.take_take, Nat.min_eq_left (by omega)]
    rw [h2, List.take_append_drop]
  have hnd : (xs.take f ++ (xs.drop f).take (k + 1 - f)).Nodup := by rw [← e]; exact hp.2.sublist (List.take_sublist _ _)
  obtain ⟨hn1, hn2, hn3⟩ := List.nodup_append.1 hnd
  refine ⟨hn2, by rw [List.length_take, List.length_drop]; omega, fun x hx => ?_⟩
  have hx1 : x ≤ (k : Int) + 1 := by
    have := le_most (xs := xs) (k := k + 1) (by omega) x (by rw [e]; exact List.mem_append_right _ hx)
    omega
  refine ⟨?_, hx1⟩
  rcases Int.lt_or_le (f : Int) x with h | h
  · exact h
  · exfalso
    have hall : ∀ y ∈ x :: xs.take f, 0 < y ∧ y ≤ 0 + (f : Int) := by
      intro y hy
      rcases List.mem_cons.1 hy with rfl | hy
      · have h1 := hp.1 y (List.mem_of_mem_drop (List.mem_of_mem_take hx))
        omega
      · have h1 := hp.1 y (List.mem_of_mem_take hy)
        have h2 := le_most (xs := xs) (k := f) (by omega) y hy
        omega
    have hnx : (x :: xs.take f).Nodup := by
      rw [List.nodup_cons]
      exact ⟨fun hx2 => hn3 x hx2 x hx rfl, hn1⟩
    have h3 := nodup_len_le f _ 0 hnx hall
    rw [List.length_cons, List.length_take] at h3
    omega
theorem rk_range {l : List Int} {f m : Nat} (hn : l.Nodup) (hl : l.length = m) (h : ∀ x ∈ l, (f : Int) < x ∧ x ≤ (f : Int) + (m : Int)) {x : Int} (hx : x ∈ l) : rk l x = x - (f : Int) := by
  have hx0 := h x hx
  have h1 : (l.filter fun y => decide (y < x)).length ≤ (x - 1 - (f : Int)).toNat := by
    refine nodup_len_le _ _ (f : Int) (hn.filter _) fun y hy => ?_
    rw [List.mem_filter] at hy
    have h2 := h y hy.1
    have h3 := of_decide_eq_true hy.2
    omega
  have h2 : (l.filter fun y => !decide (y < x)).length ≤ ((f : Int) + (m : Int) - (x - 1)).toNat := by
    refine nodup_len_le _ _ (x - 1) (hn.filter _) fun y hy => ?_
    rw [List.mem_filter] at hy
    have h2 := h y hy.1
    have h3 := hy.2
    simp at h3
    omega
  have h3 := List.length_eq_countP_add_countP (fun y => decide (y < x)) (l := l)
  rw [← List.countP_eq_length_filter] at h1 h2
  have h4 : (l.countP fun y => !decide (y < x)) = l.countP fun y => decide ¬(decide (y < x) = true) := by
    congr 1; funext y; by_cases hyx : y < x <;> simp [hyx] <;> omega
  rw [h4] at h2
  unfold rk
  omega
theorem pat_part {xs : List Int} (hp : IsPermL xs) {k : Nat} (hk : k < xs.length) (hm : mostAt xs (k + 1) = (k : Int) + 1) :
    pat ((xs.drop (fromAt xs k)).take (k + 1 - fromAt xs k)) = raise ((xs.drop (fromAt xs k)).take (k + 1 - fromAt xs k)) (-(fromAt xs k : Int)) := by
  obtain ⟨h1, h2, h3⟩ := part_range hp hk hm
  have hf := fromAt_le xs k
  unfold pat raise
  refine List.map_congr_left fun x hx => ?_
  rw [rk_range (f := fromAt xs k) h1 h2 (fun y hy => by have := h3 y hy; omega) hx]
  omega
theorem partsG_eq {xs : List Int} (hp : IsPermL xs) (k : Nat) (hk : k ≤ xs.length) : partsG (fun f l => raise l (-(f : Int))) xs k = partsG (fun _ l => pat l) xs k := by
  induction k with
  | zero => rfl
  | succ k ih =>
    simp only [partsG]
    rw [ih (by omega)]
    congr 1
    split
    · rename_i h
      rw [pat_part hp (by omega) h]
    · rfl
theorem length_partsG (g : Nat → List Int → List Int) (xs : List Int) (k : Nat) : (partsG g xs k).length ≤ k := by
  induction k with
  | zero => simp [partsG]
  | succ k ih => simp only [partsG, List.length_append]; split <;> simp <;> omega
theorem rows_partsG {xs : List Int} (hp : IsPermL xs) (k : Nat) (hk : k ≤ xs.length) : ∀ r ∈ partsG (fun _ l => pat l) xs k, IsPermL r ∧ r.length ≤ xs.length := by
  induction k with
  | zero => simp [partsG]
  | succ k ih =>
    intro r hr
    simp only [partsG] at hr
    rcases List.mem_append.1 hr with hr | hr
    · exact ih (by omega) r hr
    · split at hr
      · rename_i h
        simp at hr
        subst hr
        obtain ⟨h1, h2, _⟩ := part_range hp (by omega) h
        exact ⟨(pat_perm _).2 h1, by rw [length_pat, h2]; omega⟩
      · cases hr
def sumPsP (xs : List Int) : List (List Int) := if Perm8 xs then sumPs xs else []
theorem bound_sumPsP (xs : List Int) : totL (sumPsP xs) ≤ 2097152 ∧ (sumPsP xs).length ≤ 2097152 := by
  unfold sumPsP; split
  · rename_i h
    exact bound_rows (k := 8) (m := 8) (Nat.le_trans (length_partsG _ _ _) h.1) (fun r hr => Nat.le_trans (rows_partsG h.2 _ (Nat.le_refl _) r hr).2 h.1) (by omega) (by omega)
  · simp [totL]

end Go.Proofs.Ytjndgppekckhbaa
