/- The plain law of the closure: each step widens what is no interval. No condition. -/
import Derived.Test.YtmojniiimondfaaF22
namespace Go.Proofs.Ytmojniiimondfaa
open Go.RowKit

/-- The range s, widened by the first k places that hold a number from lo to hi. -/
def wid (xs : List Int) (lo hi : Int) (s : Nat × Nat) : Nat → Nat × Nat
  | 0 => s
  | k + 1 => if lo ≤ xs.getD k 0 ∧ xs.getD k 0 ≤ hi then (min (wid xs lo hi s k).1 k, max (wid xs lo hi s k).2 (k + 1)) else wid xs lo hi s k
theorem wid_bd {xs : List Int} {lo hi : Int} {s : Nat × Nat} {n : Nat} (hs : s.2 ≤ n) : ∀ k, k ≤ n → (wid xs lo hi s k).1 ≤ s.1 ∧ s.2 ≤ (wid xs lo hi s k).2 ∧ (wid xs lo hi s k).2 ≤ n := by
  intro k
  induction k with
  | zero => intro _; exact ⟨Nat.le_refl _, Nat.le_refl _, hs⟩
  | succ k ih =>
    intro hk
    obtain ⟨h1, h2, h3⟩ := ih (by omega)
    simp only [wid]
    split <;> (try simp only) <;> omega
theorem wid_in {xs : List Int} {lo hi : Int} {s : Nat × Nat} : ∀ k i, i < k → lo ≤ xs.getD i 0 → xs.getD i 0 ≤ hi → (wid xs lo hi s k).1 ≤ i ∧ i < (wid xs lo hi s k).2 := by
  intro k
  induction k with
  | zero => intro i hi; omega
  | succ k ih =>
    intro i hik h1 h2
    simp only [wid]
    rcases Nat.lt_or_ge i k with h | h
    · have h3 := ih i h h1 h2
      split <;> (try simp only) <;> omega
    · obtain rfl : i = k := by omega
      rw [if_pos ⟨h1, h2⟩]; simp only; omega
/-- One step. -/
def stp (xs : List Int) (s : Nat × Nat) : Nat × Nat := wid xs (mnAt xs s.1 (s.2 - s.1)) (mxAt xs s.1 (s.2 - s.1)) s xs.length
def clos (xs : List Int) : Nat → Nat × Nat → Nat × Nat
  | 0, s => s
  | f + 1, s => if runB xs s.1 (s.2 - s.1) then s else clos xs f (stp xs s)
theorem clos_run {xs : List Int} {s : Nat × Nat} (h : runB xs s.1 (s.2 - s.1) = true) (f : Nat) : clos xs f s = s := by
  cases f with
  | zero => rfl
  | succ f => simp [clos, h]

theorem le_mx (xs : List Int) (f : Nat) : ∀ k i, i < k → xs.getD (f + i) 0 ≤ mxAt xs f k := by
  intro k
  induction k with
  | zero => intro i h; omega
  | succ k ih =>
    intro i h
    simp only [mxAt]
    rcases Nat.lt_or_ge i k with h1 | h1
    · have := ih i h1; omega
    · obtain rfl : i = k := by omega
      omega
theorem mn_le (xs : List Int) (f : Nat) : ∀ k i, i < k → mnAt xs f k ≤ xs.getD (f + i) 0 := by
  intro k
  induction k with
  | zero => intro i h; omega
  | succ k ih =>
    intro i h
    simp only [mnAt]
    rcases Nat.lt_or_ge i k with h1 | h1
    · have := ih i h1; omega
    · obtain rfl : i = k := by omega
      omega
theorem mem_seg {xs : List Int} {f m : Nat} {x : Int} (h : x ∈ (xs.drop f).take m) : ∃ i, i < m ∧ f + i < xs.length ∧ xs.getD (f + i) 0 = x := by
  obtain ⟨i, hi⟩ := List.getElem?_of_mem h
  rw [List.getElem?_take] at hi
  split at hi
  · rename_i him
    rw [List.getElem?_drop] at hi
    exact ⟨i, him, (List.getElem?_eq_some_iff.1 hi).1, by simp [List.getD, hi]⟩
  · cases hi

/-- What is no interval grows. -/
theorem stp_grows {xs : List Int} {a b : Nat} (hp : IsPermL xs) (hab : a < b) (hb : b ≤ xs.length) (hr : runB xs a (b - a) = false) :
    (stp xs (a, b)).1 ≤ a ∧ b ≤ (stp xs (a, b)).2 ∧ (stp xs (a, b)).2 ≤ xs.length ∧ b - a < (stp xs (a, b)).2 - (stp xs (a, b)).1 := by
  obtain ⟨w1, w2, w3⟩ := wid_bd (xs := xs) (lo := mnAt xs a (b - a)) (hi := mxAt xs a (b - a)) (s := (a, b)) hb xs.length (Nat.le_refl _)
  have hin := wid_in (xs := xs) (lo := mnAt xs a (b - a)) (hi := mxAt xs a (b - a)) (s := (a, b)) xs.length
  have e : stp xs (a, b) = wid xs (mnAt xs a (b - a)) (mxAt xs a (b - a)) (a, b) xs.length := rfl
  rw [← e] at w1 w2 w3 hin
  simp only at w1 w2
  refine ⟨w1, w2, w3, ?_⟩
  rcases Nat.lt_or_ge (b - a) ((stp xs (a, b)).2 - (stp xs (a, b)).1) with h | h
  · exact h
  exfalso
  have e1 : (stp xs (a, b)).1 = a := by omega
  have e2 : (stp xs (a, b)).2 = b := by omega
  rw [e1, e2] at hin
  obtain ⟨m, rfl⟩ : ∃ m, b = a + m := ⟨b - a, by omega⟩
  rw [Nat.add_sub_cancel_left] at hin hr
  have hmx := le_mx xs a m
  have hmn := mn_le xs a m
  obtain ⟨p, hp'⟩ : ∃ p, p = mnAt xs a m := ⟨_, rfl⟩
  obtain ⟨q, hq'⟩ : ∃ q, q = mxAt xs a m := ⟨_, rfl⟩
  have hne : q - p ≠ (m : Int) - 1 := by
    intro e
    unfold runB at hr
    rw [← hp', ← hq', e] at hr
    simp at hr
  rw [← hp'] at hmn hin
  rw [← hq'] at hmx hin
  have exs : xs = xs.take a ++ ((xs.drop a).take m ++ xs.drop (a + m)) := by
    rw [← List.drop_drop, List.take_append_drop, List.take_append_drop]
  have hnd := hp.2
  have hlen : xs.length = a + (m + (xs.drop (a + m)).length) := by rw [List.length_drop]; omega
  have hls : ((xs.drop a).take m).length = m := by rw [List.length_take, List.length_drop]; omega
  have hsub : ((xs.drop a).take m).Nodup := (hnd.sublist (List.drop_sublist _ _)).sublist (List.take_sublist _ _)
  -- the segment lies between p and q
  have h1 := nodup_len_le (q - p + 1).toNat _ (p - 1) hsub (fun x hx => by
    obtain ⟨i, him, _, hx'⟩ := mem_seg hx
    have h2 := hmx i him
    have h3 := hmn i him
    rw [hx'] at h2 h3
    have h4 := hmx 0 (by omega)
    omega)
  rw [hls] at h1
  have hpq : p ≤ q := by have h2 := hmx 0 (by omega); have h3 := hmn 0 (by omega); omega
  -- what lies outside is less than p or greater than q
  have hout : ∀ x ∈ xs.take a ++ xs.drop (a + m), 1 ≤ x ∧ x ≤ (xs.length : Int) ∧ (x < p ∨ q < x) := by
    intro x hx
    have hbd := hp.1 x (by rcases List.mem_append.1 hx with h | h; exact List.mem_of_mem_take h; exact List.mem_of_mem_drop h)
    refine ⟨hbd.1, hbd.2, ?_⟩
    obtain ⟨i, hil, hia, hix⟩ : ∃ i, i < xs.length ∧ ¬ (a ≤ i ∧ i < a + m) ∧ xs.getD i 0 = x := by
      rcases List.mem_append.1 hx with h | h
      · obtain ⟨i, hi⟩ := List.getElem?_of_mem h
        have hi2 := (List.getElem?_eq_some_iff.1 hi).1
        rw [List.length_take] at hi2
        rw [List.getElem?_take_of_lt (by omega)] at hi
        exact ⟨i, by omega, by omega, by simp [List.getD, hi]⟩
      · obtain ⟨i, hi⟩ := List.getElem?_of_mem h
        rw [List.getElem?_drop] at hi
        exact ⟨a + m + i, (List.getElem?_eq_some_iff.1 hi).1, by omega, by simp [List.getD, hi]⟩
    have := hin i hil
    rw [hix] at this
    omega
  have hnd2 : (xs.take a ++ xs.drop (a + m)).Nodup := by
    refine hnd.sublist ?_
    have : (xs.take a ++ xs.drop (a + m)).Sublist (xs.take a ++ ((xs.drop a).take m ++ xs.drop (a + m))) :=
      List.Sublist.append (List.Sublist.refl _) (List.sublist_append_right _ _)
    rwa [← exs] at this
  have hq : 1 ≤ p ∧ q ≤ (xs.length : Int) := by
    constructor
    · obtain ⟨x, hx⟩ : ∃ x, x = p := ⟨_, rfl⟩
      have : ∀ k, k ≤ m → 1 ≤ mnAt xs a k := by
        intro k hk
        induction k with
        | zero => have h2 := hp.1 _ (List.getElem_mem (show a < xs.length by omega)); simp [mnAt, List.getD, show a < xs.length by omega]; omega
        | succ k ih =>
          have h2 := hp.1 _ (List.getElem_mem (show a + k < xs.length by omega)); have h3 := ih (by omega)
          have h4 : xs.getD (a + k) 0 = xs[a + k]'(by omega) := by simp [List.getD, show a + k < xs.length by omega]
          simp only [mnAt, h4]; omega
      rw [hp']; exact this m (Nat.le_refl _)
    · have : ∀ k, k ≤ m → mxAt xs a k ≤ (xs.length : Int) := by
        intro k hk
        induction k with
        | zero => have h2 := hp.1 _ (List.getElem_mem (show a < xs.length by omega)); simp [mxAt, List.getD, show a < xs.length by omega]; omega
        | succ k ih =>
          have h2 := hp.1 _ (List.getElem_mem (show a + k < xs.length by omega)); have h3 := ih (by omega)
          have h4 : xs.getD (a + k) 0 = xs[a + k]'(by omega) := by simp [List.getD, show a + k < xs.length by omega]
          simp only [mxAt, h4]; omega
      rw [hq']; exact this m (Nat.le_refl _)
  have h2 := nodup_len_le ((xs.length : Int) - (q - p + 1)).toNat ((xs.take a ++ xs.drop (a + m)).map fun x => if x < p then x else x - (q - p + 1)) 0
    (nodup_map_of (fun x hx y hy hxy => by
      have h3 := hout x hx; have h4 := hout y hy
      split at hxy <;> split at hxy <;> omega) hnd2)
    (fun y hy => by
      obtain ⟨x, hx, rfl⟩ := List.mem_map.1 hy
      have h3 := hout x hx
      split <;> omega)
  rw [List.length_map, List.length_append, List.length_take, List.length_drop] at h2
  omega
end Go.Proofs.Ytmojniiimondfaa
