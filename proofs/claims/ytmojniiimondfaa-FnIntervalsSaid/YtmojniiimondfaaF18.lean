/- The walks of the laws' own helpers on slices of slices of integers: compare, mark, look at the marks. Conditions: the lengths are at most 2^21, all together at most 2^31. -/
import Derived.Test.YtmojniiimondfaaII
namespace Go.Proofs.Ytmojniiimondfaa
open Go.RowKit

def totL : List (List Int) → Nat
  | [] => 0
  | r :: rs => r.length + totL rs
theorem totL_append (a b : List (List Int)) : totL (a ++ b) = totL a + totL b := by
  induction a with
  | nil => simp [totL]
  | cons r rs ih => simp only [List.cons_append, totL, ih]; omega
theorem totL_take_le (xss : List (List Int)) (k : Nat) : totL (xss.take k) ≤ totL xss := by
  have h := totL_append (xss.take k) (xss.drop k)
  rw [List.take_append_drop] at h; omega
theorem totL_snoc {xss : List (List Int)} {k : Nat} {xs : List Int} (h : xss[k]? = some xs) : totL (xss.take (k + 1)) = totL (xss.take k) + xs.length := by
  rw [take_snoc h, totL_append]; simp [totL]
theorem totL_bound {xss : List (List Int)} {m : Nat} (h : ∀ xs ∈ xss, xs.length ≤ m) : totL xss ≤ xss.length * m := by
  induction xss with
  | nil => simp [totL]
  | cons r rs ih =>
    have h1 := h r (by simp)
    have h2 := ih (fun xs hx => h xs (by simp [hx]))
    simp only [totL, List.length_cons, Nat.add_mul, Nat.one_mul]; omega
theorem le_totL {xss : List (List Int)} {xs : List Int} (h : xs ∈ xss) : xs.length ≤ totL xss := by
  induction xss with
  | nil => cases h
  | cons r rs ih =>
    simp only [totL]
    rcases List.mem_cons.1 h with rfl | h
    · omega
    · have := ih h; omega
/-- The marks of all rows. -/
def marksS (k0 : Int) : List (List Int) → List (List Int)
  | [] => []
  | r :: rs => marks k0 r.length :: marksS (k0 + r.length) rs
theorem length_marks (k0 : Int) (n : Nat) : (marks k0 n).length = n := by simp [marks]
theorem length_marksS (k0 : Int) (xss : List (List Int)) : (marksS k0 xss).length = xss.length := by
  induction xss generalizing k0 with
  | nil => rfl
  | cons r rs ih => simp [marksS, ih]
theorem totL_marksS (k0 : Int) (xss : List (List Int)) : totL (marksS k0 xss) = totL xss := by
  induction xss generalizing k0 with
  | nil => rfl
  | cons r rs ih => simp [marksS, totL, ih, length_marks]
theorem marksS_get (k0 : Int) (xss : List (List Int)) (k : Nat) (xs : List Int) (h : xss[k]? = some xs) : (marksS k0 xss)[k]? = some (marks (k0 + totL (xss.take k)) xs.length) := by
  induction xss generalizing k0 k with
  | nil => simp at h
  | cons r rs ih =>
    cases k with
    | zero => simp at h; subst h; simp [marksS, totL]
    | succ k =>
      simp only [List.getElem?_cons_succ] at h
      simp only [marksS, List.getElem?_cons_succ, List.take_succ_cons, totL]
      rw [ih _ k h]
      congr 2
      omega

/-- One row of what the call owns: it reads so, and it may be written anew. -/
theorem OwnII.row {w : World} {lo hi n c : Nat} {a : Option Addr} {xss : List (List Int)} (h : OwnII w lo hi a n c xss) {k : Nat} (hk : k < n) :
    ∃ g ra rn rc xs, a = some ⟨g, 0, none⟩ ∧ w.cell? ⟨g, k, none⟩ = some (.slice ra rn rc) ∧ OwnIn w lo hi ra rn rc xs ∧ Hid (xss[k]? = some xs) ∧
      ∀ w' ys, OwnIn w' lo hi ra rn rc ys → w.grownBy w' (Value.slice ra rn rc).ownBlock → OwnII w' lo hi a n c (xss.set k ys) := by
  obtain ⟨rs, h1, h2, h3, h4, h5, h6⟩ := h
  obtain ⟨g, cur, rfl, _, _⟩ := own_head h3 (by omega)
  have hr : rs[k]? = some _ := List.getElem?_eq_getElem (by rw [h2]; exact hk)
  have hx : xss[k]? = some _ := List.getElem?_eq_getElem (by rw [h1]; exact hk)
  have hrow := h5 k _ _ hr hx
  refine ⟨g, _, _, _, _, rfl, ?_, hrow, hx, ?_⟩
  · rw [h3.cellAt k (by omega), List.getElem?_map, hr]; rfl
  · intro w' ys ho hg
    have hne : (Value.slice (some ⟨g, 0, none⟩) n c).ownBlock = none ∨ (Value.slice (some ⟨g, 0, none⟩) n c).ownBlock ≠ (Value.slice (rs[k]'(by rw [h2]; exact hk)).1 (rs[k]'(by rw [h2]; exact hk)).2.1 (rs[k]'(by rw [h2]; exact hk)).2.2).ownBlock := own_types_ne h3 hrow.1.2 (by decide)
    refine ⟨rs, by simp [h1], h2, ?_, h4, ?_, h6⟩
    · refine ⟨h3.1, ?_⟩
      rcases h3.2 with hh | ⟨g', cap, cur', e1, e2, e3, e4⟩
      · exact .inl hh
      · refine .inr ⟨g', cap, cur', e1, e2, ?_, e4⟩
        simp only [Value.slice.injEq] at e1
        obtain rfl : g = g' := by simpa using e1.1
        refine (hg.block g (Array.getElem?_eq_some_iff.1 e3).1 ?_).trans e3
        rcases hne with hne | hne
        · simp [Value.ownBlock] at hne
        · simpa [Value.ownBlock] using hne
    · intro i r zs hri hzi
      by_cases hik : i = k
      · subst hik
        rw [List.getElem?_set_self (by rw [h1]; exact hk)] at hzi
        cases hzi
        rw [hr] at hri; cases hri
        exact ho
      · rw [List.getElem?_set_ne (Ne.symm hik)] at hzi
        have hi := h5 i r zs hri hzi
        refine ⟨hi.1.grown hg ?_, hi.2⟩
        cases hb : (Value.slice r.1 r.2.1 r.2.2).ownBlock with
        | none => exact .inl rfl
        | some p =>
          refine .inr ?_
          intro e
          obtain ⟨ra, rn, rc⟩ := r
          cases ra with
          | none => simp [Value.ownBlock] at hb
          | some pa =>
            have e' : (Value.slice (some pa) rn rc).ownBlock = some pa.block := by simp [Value.ownBlock]
            generalize hq : rs[k]'(by rw [h2]; exact hk) = q at *
            obtain ⟨qa, qn, qc⟩ := q
            cases qa with
            | none => simp [Value.ownBlock] at e hb
            | some qb =>
              have e2 : (Value.slice (some qb) qn qc).ownBlock = some qb.block := by simp [Value.ownBlock]
              simp only [e', e2, Option.some.injEq] at e hb
              rcases Nat.lt_or_gt_of_ne hik with hlt | hlt
              · exact absurd (by omega) (h6 i k _ _ _ _ hlt hri hr rfl rfl)
              · exact absurd (by omega) (h6 k i _ _ _ _ hlt hr hri rfl rfl)

theorem set_take_drop {α : Type} {xss yss : List α} {k : Nat} {y : α} (hx : k < xss.length) (hy : yss[k]? = some y) (hl : k ≤ yss.length) : (yss.take k ++ xss.drop k).set k y = yss.take (k + 1) ++ xss.drop (k + 1) := by
  have h1 : (yss.take k).length = k := by rw [List.length_take, Nat.min_eq_left hl]
  rw [List.set_append_right _ _ (by omega), h1, Nat.sub_self, List.drop_eq_getElem_cons hx, List.set_cons_zero, take_snoc hy]
  simp

theorem OwnII.iisT {w : World} {lo hi n c : Nat} {a : Option Addr} {xss : List (List Int)} (h : OwnII w lo hi a n c xss) (hb : totL xss ≤ 2097152 ∧ xss.length ≤ 2097152) : IIs w a n c xss :=
  h.iis (by rw [← h.len]; exact hb.2) fun xs hx => Nat.le_trans (le_totL hx) hb.1
end Go.Proofs.Ytmojniiimondfaa
