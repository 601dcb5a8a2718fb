/- The plain law of ordering: what a sort leaves, each once, is what insertion, each once, leaves. No condition. -/
import Derived.Test.YtmojniiimondfaaF10
import Derived.Sort.Statements
namespace Go.Proofs.Ytmojniiimondfaa

theorem cmpL_eq : ∀ (xs ys : List Int), cmpL xs ys = 0 → xs = ys
  | [], [], _ => rfl
  | [], _ :: _, h => by simp [cmpL] at h
  | _ :: _, [], h => by simp [cmpL] at h
  | x :: xs, y :: ys, h => by
    simp only [cmpL] at h
    by_cases h1 : x < y
    · rw [if_pos h1] at h; omega
    · rw [if_neg h1] at h
      by_cases h2 : y < x
      · rw [if_pos h2] at h; omega
      · rw [if_neg h2] at h
        have h3 := cmpL_eq xs ys h
        have h4 : x = y := by omega
        rw [h3, h4]
theorem cmpL_neg : ∀ (xs ys : List Int), cmpL ys xs = - cmpL xs ys
  | [], [] => rfl
  | [], _ :: _ => rfl
  | _ :: _, [] => rfl
  | x :: xs, y :: ys => by
    simp only [cmpL]
    have := cmpL_neg xs ys
    by_cases h1 : x < y
    · rw [if_pos h1, if_neg (by omega), if_pos h1]; rfl
    · by_cases h2 : y < x
      · rw [if_pos h2, if_neg h1, if_pos h2]
      · rw [if_neg h1, if_neg h2, if_neg h2, if_neg h1, this]
theorem cmpL_trans : ∀ (xs ys zs : List Int), cmpL xs ys < 0 → cmpL ys zs < 0 → cmpL xs zs < 0
  | [], [], _, h, _ => by simp [cmpL] at h
  | [], _ :: _, [], _, h => by simp [cmpL] at h
  | [], _ :: _, _ :: _, _, _ => by simp [cmpL]
  | _ :: _, [], _, h, _ => by simp [cmpL] at h
  | _ :: _, _ :: _, [], _, h => by simp [cmpL] at h
  | x :: xs, y :: ys, z :: zs, h1, h2 => by
    have ih := cmpL_trans xs ys zs
    simp only [cmpL] at h1 h2 ⊢
    by_cases a : x < y
    · by_cases b : y < z
      · rw [if_pos (by omega)]; omega
      · rw [if_neg b] at h2
        by_cases c : z < y
        · rw [if_pos c] at h2; omega
        · rw [if_pos (by omega)]; omega
    · rw [if_neg a] at h1
      by_cases a' : y < x
      · rw [if_pos a'] at h1; omega
      · rw [if_neg a'] at h1
        by_cases b : y < z
        · rw [if_pos (by omega)]; omega
        · rw [if_neg b] at h2
          by_cases c : z < y
          · rw [if_pos c] at h2; omega
          · rw [if_neg c] at h2
            rw [if_neg (by omega), if_neg (by omega)]
            exact ih h1 h2
theorem cmpP_self (xs : List Int) : cmpP xs xs = 0 := by
  unfold cmpP; rw [if_neg (by omega), if_neg (by omega), cmpL_same]
theorem cmpP_eq {xs ys : List Int} (h : cmpP xs ys = 0) : xs = ys := by
  unfold cmpP at h
  split at h
  · omega
  · split at h
    · omega
    · exact cmpL_eq _ _ h
theorem cmpP_neg (xs ys : List Int) : cmpP ys xs = - cmpP xs ys := by
  unfold cmpP
  by_cases h1 : xs.length < ys.length
  · rw [if_pos h1, if_neg (by omega), if_pos h1]; rfl
  · by_cases h2 : ys.length < xs.length
    · rw [if_pos h2, if_neg h1, if_pos h2]
    · rw [if_neg h1, if_neg h2, if_neg h2, if_neg h1, cmpL_neg]
theorem cmpP_trans {xs ys zs : List Int} (h1 : cmpP xs ys < 0) (h2 : cmpP ys zs < 0) : cmpP xs zs < 0 := by
  have e := cmpL_trans xs ys zs
  unfold cmpP at h1 h2 ⊢
  split at h1
  · split at h2
    · rw [if_pos (by omega)]; omega
    · split at h2
      · omega
      · rw [if_pos (by omega)]; omega
  · split at h1
    · omega
    · split at h2
      · rw [if_pos (by omega)]; omega
      · split at h2
        · omega
        · rw [if_neg (by omega), if_neg (by omega)]
          exact e h1 h2
/-- The order: by length, then by the first number that differs. -/
def Lt (xs ys : List Int) : Prop := cmpP xs ys < 0
theorem Lt.trans {a b c : List Int} (h : Lt a b) (k : Lt b c) : Lt a c := cmpP_trans h k
theorem Lt.irrefl (a : List Int) : ¬ Lt a a := by unfold Lt; rw [cmpP_self]; omega
theorem Lt.tri {a b : List Int} (h : ¬ Lt a b) (k : ¬ Lt b a) : a = b := by
  unfold Lt at h k
  have := cmpP_neg a b
  exact cmpP_eq (by omega)
theorem Lt.asymm {a b : List Int} (h : Lt a b) : ¬ Lt b a := fun k => Lt.irrefl a (h.trans k)
/-- Ascending, each once. -/
def Asc (l : List (List Int)) : Prop := l.Pairwise Lt
theorem Asc.unique : ∀ {l m : List (List Int)}, Asc l → Asc m → (∀ x, x ∈ l ↔ x ∈ m) → l = m
  | [], [], _, _, _ => rfl
  | [], y :: m, _, _, h => by have := (h y).2 (by simp); simp at this
  | x :: l, [], _, _, h => by have := (h x).1 (by simp); simp at this
  | x :: l, y :: m, hl, hm, h => by
    obtain ⟨h1, h2⟩ := List.pairwise_cons.1 hl
    obtain ⟨h3, h4⟩ := List.pairwise_cons.1 hm
    have e : x = y := by
      have hx := (h x).1 (by simp)
      have hy := (h y).2 (by simp)
      rcases List.mem_cons.1 hx with e | hx
      · exact e
      · rcases List.mem_cons.1 hy with e | hy
        · exact e.symm
        · exact absurd (h1 y hy) (Lt.asymm (h3 x hx))
    subst e
    congr 1
    refine Asc.unique h2 h4 fun z => ?_
    constructor
    · intro hz
      rcases List.mem_cons.1 ((h z).1 (List.mem_cons_of_mem _ hz)) with e | h5
      · subst e; exact absurd (h1 z hz) (Lt.irrefl _)
      · exact h5
    · intro hz
      rcases List.mem_cons.1 ((h z).2 (List.mem_cons_of_mem _ hz)) with e | h5
      · subst e; exact absurd (h3 z hz) (Lt.irrefl _)
      · exact h5

/-! ### insertion, each once -/
/-- Behind which place p goes, of the first k. -/
def putAt (xss : List (List Int)) (p : List Int) : Nat → Nat
  | 0 => 0
  | k + 1 => if cmpP p (xss.getD k []) < 0 then putAt xss p k else k + 1
def putL (xss : List (List Int)) (p : List Int) : List (List Int) :=
  if 0 < putAt xss p xss.length ∧ xss.getD (putAt xss p xss.length - 1) [] = p then xss
  else xss.take (putAt xss p xss.length) ++ p :: xss.drop (putAt xss p xss.length)
theorem putAt_le (xss : List (List Int)) (p : List Int) (k : Nat) : putAt xss p k ≤ k := by
  induction k with
  | zero => exact Nat.le_refl _
  | succ k ih => unfold putAt; split <;> omega
theorem putAt_gt (xss : List (List Int)) (p : List Int) (k : Nat) : ∀ i, putAt xss p k ≤ i → i < k → Lt p (xss.getD i []) := by
  induction k with
  | zero => intro i _ h; omega
  | succ k ih =>
    intro i h1 h2
    unfold putAt at h1
    split at h1
    · rename_i h3
      rcases Nat.lt_or_ge i k with h4 | h4
      · exact ih i h1 h4
      · obtain rfl : i = k := by omega
        exact h3
    · omega
theorem putAt_last (xss : List (List Int)) (p : List Int) (k : Nat) (h : 0 < putAt xss p k) : ¬ Lt p (xss.getD (putAt xss p k - 1) []) := by
  induction k with
  | zero => simp [putAt] at h
  | succ k ih =>
    unfold putAt at h ⊢
    split
    · rename_i h3
      rw [if_pos h3] at h
      exact ih h
    · rename_i h3
      simpa [Lt] using h3
theorem mem_putL (xss : List (List Int)) (p x : List Int) : x ∈ putL xss p ↔ x ∈ xss ∨ x = p := by
  unfold putL
  have hle := putAt_le xss p xss.length
  split
  · rename_i h
    constructor
    · exact .inl
    · rintro (h1 | rfl)
      · exact h1
      · rw [← h.2]
        have hl : putAt xss x xss.length - 1 < xss.length := by omega
        rw [show xss.getD (putAt xss x xss.length - 1) [] = xss[putAt xss x xss.length - 1] by simp [List.getD, hl]]
        exact List.getElem_mem hl
  · have e := List.take_append_drop (putAt xss p xss.length) xss
    constructor
    · intro h
      rcases List.mem_append.1 h with h | h
      · exact .inl (List.mem_of_mem_take h)
      · rcases List.mem_cons.1 h with h | h
        · exact .inr h
        · exact .inl (List.mem_of_mem_drop h)
    · rintro (h | rfl)
      · rw [← e] at h
        rcases List.mem_append.1 h with h | h
        · exact List.mem_append.2 (.inl h)
        · exact List.mem_append.2 (.inr (List.mem_cons_of_mem _ h))
      · simp
theorem getD_take_mem {xss : List (List Int)} {k : Nat} {x : List Int} (h : x ∈ xss.take k) : ∃ i, i < k ∧ i < xss.length ∧ xss.getD i [] = x := by
  obtain ⟨i, hi⟩ := List.getElem?_of_mem h
  rw [List.getElem?_take] at hi
  split at hi
  · exact ⟨i, by assumption, (List.getElem?_eq_some_iff.1 hi).1, by simp [List.getD, hi]⟩
  · cases hi
theorem getD_drop_mem {xss : List (List Int)} {k : Nat} {x : List Int} (h : x ∈ xss.drop k) : ∃ i, k ≤ i ∧ i < xss.length ∧ xss.getD i [] = x := by
  obtain ⟨i, hi⟩ := List.getElem?_of_mem h
  rw [List.getElem?_drop] at hi
  exact ⟨k + i, by omega, (List.getElem?_eq_some_iff.1 hi).1, by simp [List.getD, hi]⟩
theorem Asc.getD {l : List (List Int)} (h : Asc l) {i j : Nat} (hij : i < j) (hj : j < l.length) : Lt (l.getD i []) (l.getD j []) := by
  have := List.pairwise_iff_getElem.1 h i j (by omega) hj hij
  simpa [List.getD, show i < l.length by omega, hj] using this
theorem Asc.put {xss : List (List Int)} (h : Asc xss) (p : List Int) : Asc (putL xss p) := by
  unfold putL
  split
  · exact h
  · rename_i hn
    have hle := putAt_le xss p xss.length
    have hgt := putAt_gt xss p xss.length
    have hlast := putAt_last xss p xss.length
    generalize putAt xss p xss.length = k at *
    have hlt : ∀ x ∈ xss.take k, Lt x p := by
      intro x hx
      obtain ⟨i, hik, hil, rfl⟩ := getD_take_mem hx
      have h0 : ¬ Lt p (xss.getD (k - 1) []) := hlast (by omega)
      have h1 : Lt (xss.getD (k - 1) []) p := by
        by_cases h2 : Lt (xss.getD (k - 1) []) p
        · exact h2
        · exact absurd ⟨by omega, (Lt.tri h2 h0)⟩ hn
      rcases Nat.lt_or_ge i (k - 1) with h2 | h2
      · exact (h.getD h2 (by omega)).trans h1
      · obtain rfl : i = k - 1 := by omega
        exact h1
    have hgt' : ∀ x ∈ xss.drop k, Lt p x := by
      intro x hx
      obtain ⟨i, hik, hil, rfl⟩ := getD_drop_mem hx
      exact hgt i hik hil
    unfold Asc
    rw [List.pairwise_append]
    refine ⟨h.sublist (List.take_sublist _ _), ?_, ?_⟩
    · rw [List.pairwise_cons]
      exact ⟨hgt', h.sublist (List.drop_sublist _ _)⟩
    · intro a ha b hb
      rcases List.mem_cons.1 hb with rfl | hb
      · exact hlt a ha
      · exact (hlt a ha).trans (hgt' b hb)
/-- All put in, each once. -/
def ordL (l : List (List Int)) : List (List Int) := l.foldl putL []
theorem ordL_snoc (l : List (List Int)) (p : List Int) : ordL (l ++ [p]) = putL (ordL l) p := by simp [ordL]
theorem ordL_spec (l : List (List Int)) : Asc (ordL l) ∧ ∀ x, x ∈ ordL l ↔ x ∈ l := by
  have : ∀ (l a : List (List Int)), Asc a → Asc (l.foldl putL a) ∧ ∀ x, x ∈ l.foldl putL a ↔ x ∈ a ∨ x ∈ l := by
    intro l
    induction l with
    | nil => intro a ha; exact ⟨ha, fun x => by simp⟩
    | cons p l ih =>
      intro a ha
      obtain ⟨h1, h2⟩ := ih (putL a p) (ha.put p)
      refine ⟨h1, fun x => ?_⟩
      have h3 := mem_putL a p x
      simp only [List.foldl_cons, List.mem_cons]
      rw [h2 x, h3, or_assoc]
  obtain ⟨h1, h2⟩ := this l [] List.Pairwise.nil
  exact ⟨h1, fun x => by have := h2 x; simpa [ordL] using this⟩

/-! ### equal neighbours struck -/
/-- Of the first k, those that are not the one ahead of them. -/
def cptN (l : List (List Int)) : Nat → List (List Int)
  | 0 => []
  | k + 1 => if 0 < k ∧ l.getD k [] = l.getD (k - 1) [] then cptN l k else cptN l k ++ [l.getD k []]
/-- Ascending, equal ones side by side. -/
def Wsc (l : List (List Int)) : Prop := ∀ i j, i < j → j < l.length → ¬ Lt (l.getD j []) (l.getD i [])
theorem cptN_spec {l : List (List Int)} (h : Wsc l) : ∀ k, k ≤ l.length → Asc (cptN l k) ∧ (∀ x, x ∈ cptN l k ↔ x ∈ l.take k) := by
  intro k
  induction k with
  | zero => intro _; exact ⟨List.Pairwise.nil, fun x => by simp [cptN]⟩
  | succ k ih =>
    intro hk
    obtain ⟨h1, h2⟩ := ih (by omega)
    have hx : l[k]? = some (l.getD k []) := by simp [List.getD, show k < l.length by omega]
    have hm : ∀ x, x ∈ l.take (k + 1) ↔ x ∈ l.take k ∨ x = l.getD k [] := by
      intro x; rw [take_snoc hx]; simp
    unfold cptN
    split
    · rename_i he
      refine ⟨h1, fun x => ?_⟩
      rw [h2 x, hm x]
      constructor
      · exact .inl
      · rintro (h3 | rfl)
        · exact h3
        · rw [he.2]
          have hlt : k - 1 < l.length := by omega
          have : (l.take k)[k - 1]? = some (l.getD (k - 1) []) := by
            rw [List.getElem?_take_of_lt (by omega)]; simp [List.getD, hlt]
          exact List.mem_of_getElem? this
    · rename_i he
      refine ⟨?_, fun x => by rw [List.mem_append, h2 x, hm x]; simp⟩
      unfold Asc
      rw [List.pairwise_append]
      refine ⟨h1, by simp, ?_⟩
      intro a ha b hb
      simp only [List.mem_singleton] at hb
      subst hb
      obtain ⟨i, hik, hil, rfl⟩ := getD_take_mem ((h2 a).1 ha)
      by_cases h3 : Lt (l.getD i []) (l.getD k [])
      · exact h3
      · exfalso
        have h4 := Lt.tri h3 (h i k hik (by omega))
        rcases Nat.lt_or_ge i (k - 1) with h5 | h5
        · have h6 := h i (k - 1) h5 (by omega)
          have h7 := h (k - 1) k (by omega) (by omega)
          rw [h4] at h6
          exact he ⟨by omega, Lt.tri h7 h6⟩
        · obtain rfl : i = k - 1 := by omega
          exact he ⟨by omega, h4.symm⟩
/-- What a sort leaves, equal neighbours struck, is what insertion leaves. -/
theorem cpt_ord {l m : List (List Int)} (h : Wsc m) (hp : m.Perm l) : cptN m m.length = ordL l := by
  obtain ⟨h1, h2⟩ := cptN_spec h m.length (Nat.le_refl _)
  obtain ⟨h3, h4⟩ := ordL_spec l
  refine Asc.unique h1 h3 fun x => ?_
  rw [h2 x, h4 x, List.take_length]
  exact hp.mem_iff
end Go.Proofs.Ytmojniiimondfaa
