/- Permutations in plain lists: the inverse, and what the text reads. No condition. -/
import Derived.Test.YtjhlianledgiiaaF17
namespace Go.Proofs.Ytjhlianledgiiaa
open Go.RowKit

/-- As many numbers as there are places, each but once: all of them. -/
theorem pig : ∀ (n : Nat) (l : List Int), l.Nodup → (∀ x ∈ l, 1 ≤ x ∧ x ≤ (n : Int)) → l.length ≤ n ∧ (l.length = n → ∀ v : Int, 1 ≤ v → v ≤ (n : Int) → v ∈ l)
  | 0, l, _, hb => by
    cases l with
    | nil => exact ⟨by simp, fun _ v h1 h2 => by omega⟩
    | cons x xs => have := hb x (by simp); omega
  | n + 1, l, hn, hb => by
    by_cases hm : ((n : Int) + 1) ∈ l
    · have hl := List.length_erase_of_mem hm
      have hpos : 0 < l.length := List.length_pos_of_mem hm
      have h2 : ∀ x ∈ l.erase ((n : Int) + 1), 1 ≤ x ∧ x ≤ (n : Int) := fun x hx => by
        have h3 := (hn.mem_erase_iff).1 hx
        have h4 := hb x h3.2
        have h5 := h3.1
        omega
      obtain ⟨h3, h4⟩ := pig n _ (hn.erase _) h2
      refine ⟨by omega, fun he v h5 h6 => ?_⟩
      by_cases hv : v = (n : Int) + 1
      · rw [hv]; exact hm
      · exact ((hn.mem_erase_iff).1 (h4 (by omega) v h5 (by omega))).2
    · have h2 : ∀ x ∈ l, 1 ≤ x ∧ x ≤ (n : Int) := fun x hx => by
        have h4 := hb x hx
        have h5 : x ≠ (n : Int) + 1 := fun e => hm (e ▸ hx)
        omega
      obtain ⟨h3, h4⟩ := pig n l hn h2
      exact ⟨by omega, fun he => by omega⟩
theorem perm_surj {xs : List Int} (h : IsPermL xs) {v : Int} (h1 : 1 ≤ v) (h2 : v ≤ (xs.length : Int)) : ∃ k : Nat, xs[k]? = some v :=
  List.getElem?_of_mem ((pig xs.length xs h.2 h.1).2 rfl v h1 h2)
theorem nodup_at {xs : List Int} (h : xs.Nodup) {i j : Nat} {x : Int} (hi : xs[i]? = some x) (hj : xs[j]? = some x) : i = j := by
  obtain ⟨h1, h2⟩ := List.getElem?_eq_some_iff.1 hi
  obtain ⟨h3, h4⟩ := List.getElem?_eq_some_iff.1 hj
  have hp := List.pairwise_iff_getElem.1 h
  rcases Nat.lt_trichotomy i j with h5 | h5 | h5
  · exact absurd (h2.trans h4.symm) (hp i j h1 h3 h5)
  · exact h5
  · exact absurd (h4.trans h2.symm) (hp j i h3 h1 h5)
theorem invTo_get {xs : List Int} (h : IsPermL xs) : ∀ (m : Nat), m ≤ xs.length → ∀ (k v : Nat), k < m → xs[k]? = some ((v : Int) + 1) → (invTo xs m)[v]? = some ((k : Int) + 1)
  | 0, _, k, v, hk, _ => by omega
  | m + 1, hm, k, v, hk, hx => by
    obtain ⟨u, hu⟩ : ∃ u : Nat, xs[m]? = some ((u : Int) + 1) := by
      have hy : xs[m]? = some _ := List.getElem?_eq_getElem (by omega)
      have := h.1 _ (List.mem_of_getElem? hy)
      refine ⟨(xs[m]'(by omega) - 1).toNat, ?_⟩
      rw [hy]; congr 1; omega
    have hun : u < xs.length := by have := h.1 _ (List.mem_of_getElem? hu); omega
    have e : invTo xs (m + 1) = (invTo xs m).set u ((m : Int) + 1) := by
      have := invTo_succ (xs := xs) (k := m) (v := u + 1) (by rw [hu]; rfl)
      simpa using this
    rw [e]
    by_cases hkm : k = m
    · subst hkm
      have : u = v := by rw [hu] at hx; have := Option.some.inj hx; omega
      subst this
      rw [List.getElem?_set_self (by rw [length_invTo]; exact hun)]
    · have hne : u ≠ v := fun e => hkm (nodup_at h.2 (by rw [hx, e]) hu)
      rw [List.getElem?_set_ne hne]
      exact invTo_get h m (by omega) k v (by omega) hx
theorem inv_get {xs : List Int} (h : IsPermL xs) {k v : Nat} (hx : xs[k]? = some ((v : Int) + 1)) : (inv xs)[v]? = some ((k : Int) + 1) :=
  invTo_get h xs.length (Nat.le_refl _) k v (List.getElem?_eq_some_iff.1 hx).1 hx
/-- .. and nothing else. -/
theorem inv_at {xs : List Int} (h : IsPermL xs) {v : Nat} {y : Int} (hy : (inv xs)[v]? = some y) : ∃ k : Nat, y = (k : Int) + 1 ∧ xs[k]? = some ((v : Int) + 1) := by
  have hv : v < xs.length := by have := (List.getElem?_eq_some_iff.1 hy).1; rwa [length_inv] at this
  obtain ⟨k, hk⟩ := perm_surj h (v := (v : Int) + 1) (by omega) (by omega)
  have := inv_get h hk
  rw [hy] at this
  exact ⟨k, Option.some.inj this, hk⟩
theorem perm_inv {xs : List Int} (h : IsPermL xs) : IsPermL (inv xs) := by
  constructor
  · intro y hy
    obtain ⟨v, hv⟩ := List.getElem?_of_mem hy
    obtain ⟨k, rfl, hk⟩ := inv_at h hv
    have := (List.getElem?_eq_some_iff.1 hk).1
    rw [length_inv]; omega
  · refine List.pairwise_iff_getElem.2 fun i j hi hj hij e => ?_
    have h1 : (inv xs)[i]? = some _ := List.getElem?_eq_getElem hi
    have h2 : (inv xs)[j]? = some _ := List.getElem?_eq_getElem hj
    obtain ⟨k, e1, hk⟩ := inv_at h h1
    obtain ⟨l, e2, hl⟩ := inv_at h h2
    have : k = l := by omega
    subst this
    rw [hk] at hl
    have := Option.some.inj hl
    omega
theorem perm8_inv {xs : List Int} (h : Perm8 xs) : Perm8 (inv xs) := ⟨by rw [length_inv]; exact h.1, perm_inv h.2⟩
theorem ext_perm {xs ys : List Int} (hl : xs.length = ys.length) (h : ∀ (i : Nat) (x : Int), xs[i]? = some x → ys[i]? = some x) : xs = ys := by
  refine List.ext_getElem? fun i => ?_
  by_cases hi : i < xs.length
  · have h1 : xs[i]? = some _ := List.getElem?_eq_getElem hi
    rw [h1, h i _ h1]
  · rw [List.getElem?_eq_none (by omega), List.getElem?_eq_none (by omega)]
theorem inv_inv {xs : List Int} (h : IsPermL xs) : inv (inv xs) = xs := by
  symm
  refine ext_perm (by simp [length_inv]) fun k x hx => ?_
  have h1 := h.1 x (List.mem_of_getElem? hx)
  obtain ⟨v, rfl⟩ : ∃ v : Nat, x = (v : Int) + 1 := ⟨(x - 1).toNat, by omega⟩
  exact inv_get (perm_inv h) (inv_get h hx)
/-- The inverse undoes. -/
theorem comp_inv {xs : List Int} (h : IsPermL xs) : ∀ (i : Nat) (x : Int), (comp xs (inv xs))[i]? = some x → x = (i : Int) + 1 := by
  intro i x hx
  unfold comp at hx
  rw [List.getElem?_map] at hx
  cases hy : (inv xs)[i]? with
  | none => rw [hy] at hx; simp at hx
  | some y =>
    rw [hy] at hx
    obtain ⟨k, rfl, hk⟩ := inv_at h hy
    simp only [Option.map_some, Option.some.injEq] at hx
    rw [← hx, show ((k : Int) + 1).toNat - 1 = k by omega, getD_of hk]
theorem compP_inv {xs : List Int} (h : Perm8 xs) : ComposeOk xs (invP xs) ∧ ∀ (i : Nat) (x : Int), (compP xs (invP xs))[i]? = some x → x = (i : Int) + 1 := by
  have e : invP xs = inv xs := if_pos h
  have hc : ComposeOk xs (inv xs) := ⟨h, perm8_inv h, (length_inv xs).symm⟩
  rw [e]
  refine ⟨hc, ?_⟩
  have e2 : compP xs (inv xs) = comp xs (inv xs) := if_pos hc
  rw [e2]
  exact comp_inv h.2
end Go.Proofs.Ytjhlianledgiiaa
