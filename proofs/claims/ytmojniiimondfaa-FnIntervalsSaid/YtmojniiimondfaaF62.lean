/- slices.CompactFunc with slices.Equal on the call's own list of lists. Conditions: as the names say. -/
import Derived.Test.YtmojniiimondfaaF39
import Derived.Test.YtmojniiimondfaaF29
import Derived.Test.YtmojniiimondfaaF05
import Derived.Lib.SliceRun
namespace Go.Proofs.Ytmojniiimondfaa
open Go.RowKit

theorem ownsRow_take {w : World} {B E n c g k : Nat} {xs : List Value} (h : w.ownsRow B E 1 (.slice (some ⟨g, 0, none⟩) n c) n xs) (hk : k ≤ n) : w.ownsRow B E 1 (.slice (some ⟨g, 0, none⟩) k c) k (xs.take k) := by
  obtain ⟨h1, h2 | ⟨g', cap, cur, e0, hb, hg, hn, hm, hs, ht⟩⟩ := h
  · exact absurd h2.1 (by simp)
  · simp only [Value.slice.injEq, Option.some.injEq, Addr.mk.injEq, and_true, true_and] at e0
    obtain ⟨rfl, rfl⟩ := e0
    refine ⟨by rw [List.length_take]; omega, .inr ⟨g, c, cur, rfl, hb, hg, by omega, hm, hs, ?_⟩⟩
    rw [← ht, List.take_take]
    congr 1; omega
theorem ownsRow_setCells {B E n c g : Nat} : ∀ (vs : List Value) (o : Nat) (w : World) (xs : List Value), w.ownsRow B E 1 (.slice (some ⟨g, 0, none⟩) n c) n xs →
    ∃ xs', (w.setCells g o vs).ownsRow B E 1 (.slice (some ⟨g, 0, none⟩) n c) n xs' ∧ xs'.take o = xs.take o ∧ w.grownBy (w.setCells g o vs) (some g)
  | [], o, w, xs, h => ⟨xs, h, rfl, World.grownBy.refl _ _⟩
  | v :: vs, o, w, xs, h => by
    obtain ⟨h1, h2⟩ := h.stored o v
    obtain ⟨xs', h3, h4, h5⟩ := ownsRow_setCells vs (o + 1) _ _ h1
    refine ⟨xs', h3, ?_, grownBy_trans h2 h5⟩
    have h6 := congrArg (List.take o) h4
    rw [List.take_take, List.take_take, Nat.min_eq_left (by omega)] at h6
    rw [h6, List.take_set_of_le (by omega)]

/-- The places of the first k that are not what stands ahead of them. -/
def kI (l : List (List Int)) : Nat → List Nat
  | 0 => []
  | k + 1 => if 0 < k ∧ l.getD k [] = l.getD (k - 1) [] then kI l k else kI l k ++ [k]
theorem cptN_kI (l : List (List Int)) (k : Nat) : cptN l k = (kI l k).map fun i => l.getD i [] := by
  induction k with
  | zero => rfl
  | succ k ih => unfold cptN kI; split <;> simp [ih]
theorem kI_lt (l : List (List Int)) (k : Nat) : (∀ i ∈ kI l k, i < k) ∧ (kI l k).Pairwise (· < ·) ∧ (kI l k).length ≤ k := by
  induction k with
  | zero => simp [kI]
  | succ k ih =>
    obtain ⟨h1, h2, h3⟩ := ih
    unfold kI
    split
    · exact ⟨fun i hi => by have := h1 i hi; omega, h2, by omega⟩
    · refine ⟨fun i hi => ?_, ?_, by simp; omega⟩
      · rcases List.mem_append.1 hi with h | h
        · have := h1 i h; omega
        · simp at h; omega
      · rw [List.pairwise_append]
        exact ⟨h2, by simp, fun a ha b hb => by simp at hb; have := h1 a ha; omega⟩

/-- The rows that are kept. -/
theorem keptRows {w w' : World} {lo hi n c g : Nat} {rs : List (Option Addr × Nat × Nat)} {xss : List (List Int)} (h : OwnIIr w lo hi (some ⟨g, 0, none⟩) n c rs xss) (hg : w.grownBy w' (some g)) {ks : List Nat} (hks : ∀ i ∈ ks, i < n) (hp : ks.Pairwise (· < ·))
    {k c' : Nat} (hk : ks.length = k) (hown : w'.ownsRow lo 28 1 (.slice (some ⟨g, 0, none⟩) k c') k ((ks.map fun i => rs.getD i (none, 0, 0)).map sl3)) : OwnII w' lo hi (some ⟨g, 0, none⟩) k c' (ks.map fun i => xss.getD i []) := by
  obtain ⟨h1, h2, h3, h4, h5, h6⟩ := h
  refine ⟨ks.map fun i => rs.getD i (none, 0, 0), by simpa using hk, by simpa using hk, hown, h4, ?_, ?_⟩
  · intro i r xs hr hx
    rw [List.getElem?_map] at hr hx
    cases hi : ks[i]? with
    | none => rw [hi] at hr; cases hr
    | some j =>
      rw [hi] at hr hx
      have hj := hks j (List.mem_of_getElem? hi)
      have er : rs[j]? = some (rs.getD j (none, 0, 0)) := by simp [List.getD, show j < rs.length by omega]
      have ex : xss[j]? = some (xss.getD j []) := by simp [List.getD, show j < xss.length by omega]
      simp only [Option.map_some, Option.some.injEq] at hr hx
      subst hr hx
      have ho := h5 j _ _ er ex
      exact ⟨ho.1.grown hg (own_types_ne ho.1.2 h3 (by decide)), ho.2⟩
  · intro i j r s p q hij hr hs hp' hq
    rw [List.getElem?_map] at hr hs
    cases hi : ks[i]? with
    | none => rw [hi] at hr; cases hr
    | some a =>
      cases hj : ks[j]? with
      | none => rw [hj] at hs; cases hs
      | some b =>
        rw [hi] at hr; rw [hj] at hs
        simp only [Option.map_some, Option.some.injEq] at hr hs
        have ha := hks a (List.mem_of_getElem? hi)
        have hb := hks b (List.mem_of_getElem? hj)
        obtain ⟨hi1, hi2⟩ := List.getElem?_eq_some_iff.1 hi
        obtain ⟨hj1, hj2⟩ := List.getElem?_eq_some_iff.1 hj
        have hab := List.pairwise_iff_getElem.1 hp i j hi1 hj1 hij
        rw [hi2, hj2] at hab
        exact h6 a b r s p q hab (by rw [← hr]; simp [List.getD, show a < rs.length by omega]) (by rw [← hs]; simp [List.getD, show b < rs.length by omega]) hp' hq
/-- A row, read in a later world. -/
theorem rowLater {w w' : World} {lo hi n c g : Nat} {rs : List (Option Addr × Nat × Nat)} {xss : List (List Int)} (h : OwnIIr w lo hi (some ⟨g, 0, none⟩) n c rs xss) (hg : w.grownBy w' (some g)) (hl : ∀ xs ∈ xss, xs.length ≤ 2097152) {j : Nat} (hj : j < n) :
    SlI w' (rs.getD j (none, 0, 0)).1 (rs.getD j (none, 0, 0)).2.1 (rs.getD j (none, 0, 0)).2.2 (xss.getD j []) := by
  obtain ⟨h1, h2, h3, h4, h5, h6⟩ := h
  have er : rs[j]? = some (rs.getD j (none, 0, 0)) := by simp [List.getD, show j < rs.length by omega]
  have ex : xss[j]? = some (xss.getD j []) := by simp [List.getD, show j < xss.length by omega]
  have ho := h5 j _ _ er ex
  refine (ho.1.grown hg (own_types_ne ho.1.2 h3 (by decide))).sl ?_
  rw [← ho.1.1]; exact hl _ (List.mem_of_getElem? ex)
end Go.Proofs.Ytmojniiimondfaa
