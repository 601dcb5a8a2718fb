/- PatternOf, of the program and of the reference. No condition. -/
import Derived.Test.YtmojniiimondfaaF08
namespace Go.Proofs.Ytmojniiimondfaa
open Go.RowKit

theorem countP_lt_mono {x y : Int} (h : x < y) (l : List Int) : l.countP (fun z => decide (z < x)) ≤ l.countP (fun z => decide (z < y)) :=
  List.countP_mono_left fun z _ hz => by simp only [decide_eq_true_eq] at hz ⊢; omega
theorem countP_lt_lt {x y : Int} (h : x < y) : ∀ {xs : List Int}, x ∈ xs → xs.countP (fun z => decide (z < x)) < xs.countP (fun z => decide (z < y))
  | [], hx => by cases hx
  | z :: zs, hx => by
    rw [List.countP_cons, List.countP_cons]
    rcases List.mem_cons.1 hx with e | hx
    · subst e
      have h1 := countP_lt_mono h zs
      simp only [decide_eq_true_eq, Int.lt_irrefl, if_false, h, if_true]; omega
    · have h2 := countP_lt_lt h hx
      by_cases hz : z < x
      · simp only [decide_eq_true_eq, hz, if_true, show z < y by omega]; omega
      · simp only [decide_eq_true_eq, hz, if_false]; split <;> omega
theorem rk_lt {xs : List Int} {x y : Int} (hx : x ∈ xs) (h : x < y) : rk xs x < rk xs y := by
  unfold rk
  have := countP_lt_lt h hx
  omega
theorem rk_lt_iff {xs : List Int} {x y : Int} (hx : x ∈ xs) (hy : y ∈ xs) : rk xs x < rk xs y ↔ x < y := by
  constructor
  · intro h
    by_cases e : x < y
    · exact e
    · rcases Int.lt_or_eq_of_le (show y ≤ x by omega) with h2 | h2
      · have := rk_lt hy h2; omega
      · subst h2; omega
  · exact rk_lt hx
theorem rk_inj {xs : List Int} {x y : Int} (hx : x ∈ xs) (hy : y ∈ xs) (h : rk xs x = rk xs y) : x = y := by
  have h1 := rk_lt_iff hx hy
  have h2 := rk_lt_iff hy hx
  omega
theorem countP_lt_length {x : Int} : ∀ {xs : List Int}, x ∈ xs → xs.countP (fun z => decide (z < x)) < xs.length
  | [], hx => by cases hx
  | z :: zs, hx => by
    rw [List.countP_cons, List.length_cons]
    rcases List.mem_cons.1 hx with e | hx
    · subst e
      have := List.countP_le_length (l := zs) (p := fun z => decide (z < x))
      simp only [decide_eq_true_eq, Int.lt_irrefl, if_false]; omega
    · have := countP_lt_length hx
      split <;> omega
theorem rk_le {xs : List Int} {x : Int} (hx : x ∈ xs) : rk xs x ≤ (xs.length : Int) := by
  unfold rk
  have := countP_lt_length hx
  omega
theorem nodup_map_of {f : Int → Int} {l : List Int} (hf : ∀ x ∈ l, ∀ y ∈ l, f x = f y → x = y) (h : l.Nodup) : (l.map f).Nodup := by
  induction l with
  | nil => simp
  | cons x xs ih =>
    rw [List.nodup_cons] at h
    rw [List.map_cons, List.nodup_cons]
    refine ⟨fun hm => ?_, ih (fun a ha b hb => hf a (by simp [ha]) b (by simp [hb])) h.2⟩
    obtain ⟨y, hy, e⟩ := List.mem_map.1 hm
    exact h.1 (hf y (by simp [hy]) x (by simp) e ▸ hy)
theorem nodup_of_map {f : Int → Int} {l : List Int} (h : (l.map f).Nodup) : l.Nodup := by
  induction l with
  | nil => simp
  | cons x xs ih =>
    rw [List.map_cons, List.nodup_cons] at h
    rw [List.nodup_cons]
    exact ⟨fun hm => h.1 (List.mem_map.2 ⟨x, hm, rfl⟩), ih h.2⟩
/-- The pattern is a permutation just where no two numbers are alike. -/
theorem pat_perm (xs : List Int) : IsPermL (pat xs) ↔ xs.Nodup := by
  constructor
  · exact fun h => nodup_of_map h.2
  · intro h
    refine ⟨fun x hx => ?_, nodup_map_of (fun x hx y hy => rk_inj hx hy) h⟩
    obtain ⟨y, hy, rfl⟩ := List.mem_map.1 hx
    rw [length_pat]
    exact ⟨(rk_bd xs y _ rfl).1, rk_le hy⟩

/-- PatternOf -/
def PatOk (xs : List Int) : Prop := xs.length ≤ 8 ∧ xs.Nodup
instance (xs : List Int) : Decidable (PatOk xs) := inferInstanceAs (Decidable (_ ∧ _))
def patP (xs : List Int) : List Int := if PatOk xs then pat xs else []
theorem length_patP (xs : List Int) : (patP xs).length ≤ 8 := by
  unfold patP; split
  · rename_i h; rw [length_pat]; exact h.1
  · simp

theorem nodup_take_succ {xs : List Int} {k : Nat} {x : Int} (h : (xs.take k).Nodup) (hx : xs[k]? = some x) (hm : x ∉ xs.take k) : (xs.take (k + 1)).Nodup := by
  rw [take_snoc hx, List.nodup_append]
  refine ⟨h, by simp, ?_⟩
  intro a ha b hb; simp at hb; subst hb; intro hab; subst hab; exact hm ha
theorem not_nodup_twice {k : Nat} {xs : List Int} {x : Int} (hx : xs[k]? = some x) (h : x ∈ xs.take k) : ¬ xs.Nodup := by
  intro h1
  have e : xs = xs.take (k + 1) ++ xs.drop (k + 1) := (List.take_append_drop _ _).symm
  rw [e, take_snoc hx, List.nodup_append] at h1
  have h2 := h1.1
  rw [List.nodup_append] at h2
  exact h2.2.2 x h x (by simp) rfl

end Go.Proofs.Ytmojniiimondfaa
