/- SumParts and SkewParts: the walks of the program's and the reference's functions. No condition. -/
import Derived.Test.YtjndgppekckhbaaF22
import Derived.Test.YtjndgppekckhbaaF20
namespace Go.Proofs.Ytjndgppekckhbaa
open Go.RowKit
/-! ### skew parts -/
theorem nodup_compl {xs : List Int} (h : xs.Nodup) : (compl xs).Nodup := nodup_map_of (fun x _ y _ e => by omega) h
theorem perm_compl {xs : List Int} (h : IsPermL xs) : IsPermL (compl xs) := by
  refine ⟨fun y hy => ?_, nodup_compl h.2⟩
  unfold compl at hy
  obtain ⟨x, hx, rfl⟩ := List.mem_map.1 hy
  have := h.1 x hx
  rw [length_compl]; omega
theorem perm8_compl {xs : List Int} (h : Perm8 xs) : Perm8 (compl xs) := ⟨by rw [length_compl]; exact h.1, perm_compl h.2⟩
def skewPs (xs : List Int) : List (List Int) := (sumPs (compl xs)).map compl
def skewPsP (xs : List Int) : List (List Int) := if Perm8 xs then skewPs xs else []
theorem rows_sumPs {xs : List Int} (h : Perm8 xs) : ∀ r ∈ sumPs xs, IsPermL r ∧ r.length ≤ 8 := fun r hr => by
  have := rows_partsG h.2 xs.length (Nat.le_refl _) r hr
  exact ⟨this.1, Nat.le_trans this.2 h.1⟩
theorem length_sumPs {xs : List Int} (h : Perm8 xs) : (sumPs xs).length ≤ 8 := Nat.le_trans (length_partsG _ _ _) h.1
theorem rows_skewPs {xs : List Int} (h : Perm8 xs) : ∀ r ∈ skewPs xs, IsPermL r ∧ r.length ≤ 8 := fun r hr => by
  obtain ⟨q, hq, rfl⟩ := List.mem_map.1 hr
  have := rows_sumPs (perm8_compl h) q hq
  exact ⟨perm_compl this.1, by rw [length_compl]; exact this.2⟩
theorem bound_skewPsP (xs : List Int) : totL (skewPsP xs) ≤ 2097152 ∧ (skewPsP xs).length ≤ 2097152 := by
  unfold skewPsP; split
  · rename_i h
    exact bound_rows (k := 8) (m := 8) (by unfold skewPs; rw [List.length_map]; exact length_sumPs (perm8_compl h)) (fun r hr => (rows_skewPs h r hr).2) (by omega) (by omega)
  · simp [totL]

/-- A row is put in place of another. -/
theorem OwnII.put {w : World} {lo hi n c g : Nat} {xss : List (List Int)} (h : OwnII w lo hi (some ⟨g, 0, none⟩) n c xss) {k mid : Nat} (hk : k < n) {ra : Option Addr} {rn rc : Nat} {ys : List Int} (ho : OwnIn w mid w.heap.size ra rn rc ys) (hmid : hi ≤ mid) (hlo : lo ≤ hi) (hhi : hi ≤ w.heap.size) :
    OwnII (w.setCell ⟨g, k, none⟩ (.slice ra rn rc)) lo w.heap.size (some ⟨g, 0, none⟩) n c (xss.set k ys) ∧ w.grownBy (w.setCell ⟨g, k, none⟩ (.slice ra rn rc)) (some g) ∧ lo ≤ g ∧ w.frozen? ⟨g, k, none⟩ = false ∧ (w.setCell ⟨g, k, none⟩ (.slice ra rn rc)).heap.size = w.heap.size := by
  obtain ⟨rs, h1, h2, h3, h4, h5, h6⟩ := h
  obtain ⟨s1, s2⟩ := h3.stored k (.slice ra rn rc)
  have hlt : lo ≤ g ∧ g < w.heap.size := h3.lt g rfl
  have old : ∀ (l m : Nat) (q : Option Addr × Nat × Nat) (zs : List Int), OwnIn w l m q.1 q.2.1 q.2.2 zs → lo ≤ l → m ≤ w.heap.size → OwnIn (w.setCell ⟨g, k, none⟩ (.slice ra rn rc)) lo w.heap.size q.1 q.2.1 q.2.2 zs := by
    intro l m q zs hq hl hm
    have e := hq.1.grown s2 (by
      have := own_types_ne hq.1.2 h3 (by decide)
      simpa [Value.ownBlock] using this)
    exact ⟨e.mono hl, fun p hp => by have := hq.2 p hp; omega⟩
  refine ⟨⟨rs.set k (ra, rn, rc), by simp [h1], by simp [h2], by simpa [List.map_set, sl3] using s1, fun p hp => Nat.lt_of_lt_of_le (h4 p hp) hhi, ?_, ?_⟩, s2, hlt.1, h3.frozenAt k, by simp⟩
  · intro i r zs hr hz
    by_cases hik : i = k
    · subst hik
      rw [List.getElem?_set_self (by omega)] at hr hz
      cases hr; cases hz
      exact old mid _ _ _ ho (by omega) (Nat.le_refl _)
    · rw [List.getElem?_set_ne (Ne.symm hik)] at hr hz
      exact old lo hi r zs (h5 i r zs hr hz) (Nat.le_refl _) hhi
  · intro i j r s p q hij hr hs hp hq
    have hin : ∀ (i : Nat) (r : Option Addr × Nat × Nat), i ≠ k → (rs.set k (ra, rn, rc))[i]? = some r → rs[i]? = some r ∧ ∀ p, r.1 = some p → p.block < hi := by
      intro i r hik hr
      rw [List.getElem?_set_ne (Ne.symm hik)] at hr
      refine ⟨hr, fun p hp => ?_⟩
      have hil : i < xss.length := by rw [h1, ← h2]; exact (List.getElem?_eq_some_iff.1 hr).1
      exact (h5 i r _ hr (List.getElem?_eq_getElem hil)).2 p hp
    by_cases hik : i = k
    · subst hik
      rw [List.getElem?_set_self (by omega)] at hr
      cases hr
      have b1 := (ho.1.lo p hp).1
      have b2 := (hin j s (by omega) hs).2 q hq
      omega
    · by_cases hjk : j = k
      · subst hjk
        rw [List.getElem?_set_self (by omega)] at hs
        cases hs
        have b1 := (ho.1.lo q hq).1
        have b2 := (hin i r hik hr).2 p hp
        omega
      · exact h6 i j r s p q hij (hin i r hik hr).1 (hin j s hjk hs).1 hp hq
end Go.Proofs.Ytjndgppekckhbaa
