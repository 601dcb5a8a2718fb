/- The plain law of the split of a permutation into its root and its parts. No condition. -/
import Derived.Test.YtmojniiimondfaaF33
import Derived.Test.YtmojniiimondfaaF09
namespace Go.Proofs.Ytmojniiimondfaa
open Go.RowKit

/-- The end of the part that begins at place f, of the ends tried first. -/
def upTo (xs : List Int) (f : Nat) : Nat → Nat
  | 0 => f + 1
  | j + 1 => if j + 2 < xs.length ∧ runB xs f (j + 2) = true then f + 2 + j else upTo xs f j
theorem upTo_bd (xs : List Int) (f j : Nat) : f + 1 ≤ upTo xs f j ∧ upTo xs f j ≤ f + 1 + j := by
  induction j with
  | zero => exact ⟨Nat.le_refl _, Nat.le_refl _⟩
  | succ j ih => unfold upTo; split <;> omega
theorem upTo_lt {xs : List Int} (h : 2 ≤ xs.length) (f j : Nat) : upTo xs f j < f + xs.length := by
  induction j with
  | zero => simp only [upTo]; omega
  | succ j ih => unfold upTo; split <;> omega
def toOf (xs : List Int) (f : Nat) : Nat := upTo xs f (xs.length - f - 1)
theorem toOf_bd {xs : List Int} {f : Nat} (h : f < xs.length) : f < toOf xs f ∧ toOf xs f ≤ xs.length := by
  have := upTo_bd xs f (xs.length - f - 1); unfold toOf; omega
/-- The parts' places from place f on. -/
def dfl (xs : List Int) : Nat → Nat → List (Nat × Nat)
  | 0, _ => []
  | g + 1, f => if f < xs.length then (f, toOf xs f) :: dfl xs g (toOf xs f) else []
def segs (xs : List Int) : List (Nat × Nat) := dfl xs xs.length 0
def headOf (xs : List Int) (s : Nat × Nat) : Int := xs.getD s.1 0
def partOf (xs : List Int) (s : Nat × Nat) : List Int := pat ((xs.drop s.1).take (s.2 - s.1))
theorem dfl_mem {xs : List Int} : ∀ (g f : Nat) (s : Nat × Nat), s ∈ dfl xs g f → f ≤ s.1 ∧ s.1 < s.2 ∧ s.2 ≤ xs.length ∧ s.2 = toOf xs s.1 := by
  intro g
  induction g with
  | zero => intro f s h; simp [dfl] at h
  | succ g ih =>
    intro f s h
    unfold dfl at h
    split at h
    · rename_i hf
      have hb := toOf_bd hf
      rcases List.mem_cons.1 h with rfl | h
      · exact ⟨Nat.le_refl _, hb.1, hb.2, rfl⟩
      · obtain ⟨h1, h2, h3, h4⟩ := ih _ s h
        exact ⟨by omega, h2, h3, h4⟩
    · simp at h
theorem dfl_len {xs : List Int} : ∀ (g f : Nat), (dfl xs g f).length ≤ g := by
  intro g
  induction g with
  | zero => intro f; simp [dfl]
  | succ g ih => intro f; unfold dfl; split <;> simp; exact ih _
theorem dfl_end {xs : List Int} {g f : Nat} (h : xs.length ≤ f) : dfl xs g f = [] := by
  cases g with
  | zero => rfl
  | succ g => unfold dfl; rw [if_neg (by omega)]
theorem dfl_next {xs : List Int} {g f : Nat} (h : f < xs.length) (hg : xs.length - f ≤ g) : ∃ g', dfl xs g f = (f, toOf xs f) :: dfl xs g' (toOf xs f) ∧ xs.length - toOf xs f ≤ g' := by
  cases g with
  | zero => omega
  | succ g =>
    refine ⟨g, by rw [dfl, if_pos h], ?_⟩
    have := toOf_bd h; omega

def sumSplit (sk : Bool) (l : List (List Int)) : List (List Int) := [l.getD 0 [], jn sk (l.drop 1) (l.drop 1).length]
/-- The root and the parts. -/
def splR (xs : List Int) : List Int :=
  if xs.length = 1 then [1] else if 1 < (sumPs xs).length then [1, 2] else if 1 < (skewPs xs).length then [2, 1] else pat ((segs xs).map (headOf xs))
def splP (xs : List Int) : List (List Int) :=
  if xs.length = 1 then [[1]] else if 1 < (sumPs xs).length then sumSplit false (sumPs xs) else if 1 < (skewPs xs).length then sumSplit true (skewPs xs) else (segs xs).map (partOf xs)

theorem totL_parts {xs : List Int} (k : Nat) (hk : k ≤ xs.length) : totL (partsG (fun _ l => pat l) xs k) ≤ fromAt xs k := by
  induction k with
  | zero => simp [partsG, totL]
  | succ k ih =>
    have ih' := ih (by omega)
    have hf := fromAt_le xs k
    simp only [partsG, fromAt]
    rw [totL_append]
    split
    · rename_i hm
      simp only [totL, List.map_cons, List.map_nil, List.sum_cons, List.sum_nil, length_pat, List.length_take, List.length_drop] at ih' ⊢
      omega
    · simp only [totL, List.map_nil, List.sum_nil] at ih' ⊢
      omega
theorem totL_sumPs (xs : List Int) : totL (sumPs xs) ≤ xs.length := Nat.le_trans (totL_parts _ (Nat.le_refl _)) (fromAt_le _ _)
theorem pos_parts {xs : List Int} (k : Nat) (hk : k ≤ xs.length) : ∀ r ∈ partsG (fun _ l => pat l) xs k, 1 ≤ r.length := by
  induction k with
  | zero => intro r hr; simp [partsG] at hr
  | succ k ih =>
    intro r hr
    have hf := fromAt_le xs k
    simp only [partsG] at hr
    rcases List.mem_append.1 hr with hr | hr
    · exact ih (by omega) r hr
    · split at hr
      · simp only [List.mem_singleton] at hr
        subst hr
        rw [length_pat, List.length_take, List.length_drop]; omega
      · simp at hr
theorem pos_sumPs (xs : List Int) : ∀ r ∈ sumPs xs, 1 ≤ r.length := pos_parts _ (Nat.le_refl _)
theorem totL_compl (l : List (List Int)) : totL (l.map compl) = totL l := by
  induction l with
  | nil => rfl
  | cons x l ih => simp only [totL, List.map_cons, List.sum_cons, length_compl] at ih ⊢; rw [ih]
theorem totL_skewPs (xs : List Int) : totL (skewPs xs) ≤ xs.length := by
  unfold skewPs; rw [totL_compl]
  have := totL_sumPs (compl xs); rwa [length_compl] at this
theorem pos_skewPs (xs : List Int) : ∀ r ∈ skewPs xs, 1 ≤ r.length := by
  intro r hr
  obtain ⟨q, hq, rfl⟩ := List.mem_map.1 hr
  rw [length_compl]; exact pos_sumPs _ q hq

/-- What is split off a sum. -/
theorem sumSplit_spec {sk : Bool} {l : List (List Int)} {m : Nat} (h2 : 1 < l.length) (hr : ∀ r ∈ l, IsPermL r ∧ r.length ≤ 8) (hpos : ∀ r ∈ l, 1 ≤ r.length) (ht : totL l ≤ m) (hm : m ≤ 8) :
    JOk (l.drop 1) (l.drop 1).length ∧ ∀ q ∈ sumSplit sk l, Perm8 q ∧ 1 ≤ q.length ∧ q.length < m := by
  obtain ⟨x, y, t, rfl⟩ : ∃ x y t, l = x :: y :: t := by
    cases l with
    | nil => simp at h2
    | cons x l => cases l with
      | nil => simp at h2
      | cons y t => exact ⟨x, y, t, rfl⟩
  have hx := hr x (by simp)
  have hx1 := hpos x (by simp)
  have hy1 := hpos y (by simp)
  have htot : totL (x :: y :: t) = x.length + (y.length + totL t) := by simp [totL]
  have htd : totL (y :: t) = y.length + totL t := by simp [totL]
  have hrd : ∀ r ∈ (y :: t), Perm8 r := fun r h => ⟨(hr r (List.mem_cons_of_mem _ h)).2, (hr r (List.mem_cons_of_mem _ h)).1⟩
  have hj : JOk (y :: t) (y :: t).length := ⟨by rw [List.take_length]; exact hrd, by rw [List.take_length, htd]; omega⟩
  refine ⟨hj, fun q hq => ?_⟩
  have e : sumSplit sk (x :: y :: t) = [x, jn sk (y :: t) (y :: t).length] := rfl
  rw [e] at hq
  simp only [List.mem_cons, List.not_mem_nil, or_false] at hq
  have hl := length_jn sk (y :: t) (y :: t).length (Nat.le_refl _)
  rw [List.take_length, htd] at hl
  rcases hq with rfl | rfl
  · exact ⟨⟨hx.2, hx.1⟩, hx1, by omega⟩
  · refine ⟨⟨by omega, perm_jn (Nat.le_refl _) (by rw [List.take_length]; exact hrd)⟩, by omega, by omega⟩
theorem pat_sub {xs : List Int} (h : xs.Nodup) (f m : Nat) : IsPermL (pat ((xs.drop f).take m)) :=
  (pat_perm _).2 ((h.sublist (List.drop_sublist _ _)).sublist (List.take_sublist _ _))
/-- The parts are permutations that are not empty, and shorter. -/
theorem splP_spec {xs : List Int} (h : Perm8 xs) (h2 : 2 ≤ xs.length) : (∀ q ∈ splP xs, Perm8 q ∧ 1 ≤ q.length ∧ q.length < xs.length) ∧ 1 ≤ (splP xs).length ∧ (splP xs).length ≤ 8 := by
  unfold splP
  rw [if_neg (by omega)]
  by_cases h3 : 1 < (sumPs xs).length
  · rw [if_pos h3]
    exact ⟨(sumSplit_spec h3 (rows_sumPs h) (pos_sumPs xs) (totL_sumPs xs) h.1).2, by simp [sumSplit], by simp [sumSplit]⟩
  · rw [if_neg h3]
    by_cases h4 : 1 < (skewPs xs).length
    · rw [if_pos h4]
      exact ⟨(sumSplit_spec h4 (rows_skewPs h) (pos_skewPs xs) (totL_skewPs xs) h.1).2, by simp [sumSplit], by simp [sumSplit]⟩
    · rw [if_neg h4]
      refine ⟨fun q hq => ?_, ?_, ?_⟩
      · obtain ⟨s, hs, rfl⟩ := List.mem_map.1 hq
        obtain ⟨_, s2, s3, s4⟩ := dfl_mem _ _ s hs
        have hl : (partOf xs s).length = s.2 - s.1 := by
          unfold partOf; rw [length_pat, List.length_take, List.length_drop]; omega
        have hlt : s.2 < s.1 + xs.length := by rw [s4]; exact upTo_lt h2 _ _
        refine ⟨⟨by rw [hl]; have := h.1; omega, pat_sub h.2.2 _ _⟩, by omega, by omega⟩
      · unfold segs
        obtain ⟨g', e, _⟩ := dfl_next (xs := xs) (g := xs.length) (f := 0) (by omega) (by omega)
        rw [e]; simp
      · rw [List.length_map]
        exact Nat.le_trans (dfl_len _ _) h.1
theorem splR_len {xs : List Int} (h : Perm8 xs) : (splR xs).length ≤ 8 := by
  unfold splR
  split
  · simp
  · split
    · simp
    · split
      · simp
      · rw [length_pat, List.length_map]; exact Nat.le_trans (dfl_len _ _) h.1
end Go.Proofs.Ytmojniiimondfaa
