/- Occurrences of a pattern, in plain lists: the search with pruning finds what the search through all places finds. No condition. -/
import Derived.Test.YtmojniiimondfaaF22
import Derived.Test.YtmojniiimondfaaF25
namespace Go.Proofs.Ytmojniiimondfaa
open Go.RowKit

/-- What f makes of the head with one of the numbers s, s + 1, .., k of them. -/
def findK (f : List Int → List (List Int)) (h : List Int) (s : Nat) : Nat → List (List Int)
  | 0 => []
  | j + 1 => findK f h s j ++ f (h ++ [(s : Int) + (j : Int)])
def frN (h : List Int) : Nat := match h.getLast? with | none => 1 | some t => t.toNat + 1
theorem frN_nil : frN [] = 1 := rfl
theorem frN_snoc (h : List Int) (x : Int) : frN (h ++ [x]) = x.toNat + 1 := by simp [frN]
def one' (h : List Int) : List (List Int) := [h]
/-- All rising completions by d places of n. -/
def plcP (n : Nat) : Nat → List Int → List (List Int)
  | 0, h => [h]
  | d + 1, h => findK (plcP n d) h (frN h) (n + 1 - frN h)
def lvF (n : Nat) : List (List Int) → List (List Int)
  | [] => []
  | h :: t => findK one' h (frN h) (n + 1 - frN h) ++ lvF n t
def lvQ (n : Nat) : Nat → List (List Int)
  | 0 => [[]]
  | d + 1 => lvF n (lvQ n d)
theorem lvF_append (n : Nat) (a b : List (List Int)) : lvF n (a ++ b) = lvF n a ++ lvF n b := by
  induction a with
  | nil => rfl
  | cons x a ih => simp [lvF, ih]
theorem lvF_flat (n : Nat) (l : List (List Int)) : lvF n l = l.flatMap fun h => findK one' h (frN h) (n + 1 - frN h) := by
  induction l with
  | nil => rfl
  | cons x l ih => simp [lvF, ih]
theorem findK_flat (f : List Int → List (List Int)) (h : List Int) (s k : Nat) : findK f h s k = (findK one' h s k).flatMap f := by
  induction k with
  | zero => rfl
  | succ k ih => simp only [findK, List.flatMap_append, ← ih]; simp [one']
theorem flatMap_flatMap'' {α β γ : Type} (l : List α) (f : α → List β) (g : β → List γ) : (l.flatMap f).flatMap g = l.flatMap fun x => (f x).flatMap g := by
  induction l with
  | nil => rfl
  | cons x l ih => simp [List.flatMap_append, ih]
theorem lvQ_plc (n d : Nat) (j : Nat) : (lvQ n j).flatMap (plcP n d) = lvQ n (j + d) := by
  induction d generalizing j with
  | zero =>
    show (lvQ n j).flatMap (fun h => [h]) = _
    simp
  | succ d ih =>
    have h1 := ih (j + 1)
    rw [show j + 1 + d = j + (d + 1) by omega] at h1
    rw [← h1]
    show (lvQ n j).flatMap (fun h => findK (plcP n d) h (frN h) (n + 1 - frN h)) = (lvF n (lvQ n j)).flatMap (plcP n d)
    rw [lvF_flat, flatMap_flatMap'']
    congr 1
    funext h
    exact findK_flat _ _ _ _
theorem plc_lvQ (n d : Nat) : plcP n d [] = lvQ n d := by
  have h := lvQ_plc n d 0
  simpa [lvQ] using h
theorem length_findK {f : List Int → List (List Int)} {h : List Int} {s c : Nat} (hf : ∀ j, j < c → (f (h ++ [(s : Int) + (j : Int)])).length ≤ 2 ^ (c - 1 - j)) (k : Nat) (hk : k ≤ c) : (findK f h s k).length + 2 ^ (c - k) ≤ 2 ^ c := by
  induction k with
  | zero => simp [findK]
  | succ k ih =>
    have h1 := ih (by omega)
    have h2 := hf k (by omega)
    simp only [findK, List.length_append]
    have h3 : c - k = (c - (k + 1)) + 1 := by omega
    rw [h3, Nat.pow_succ] at h1
    rw [show c - 1 - k = c - (k + 1) by omega] at h2
    omega
theorem length_plcP (n d : Nat) (h : List Int) : (plcP n d h).length ≤ 2 ^ (n + 1 - frN h) := by
  induction d generalizing h with
  | zero => simp only [plcP, List.length_singleton]; exact Nat.one_le_two_pow
  | succ d ih =>
    simp only [plcP]
    have h1 := length_findK (f := plcP n d) (h := h) (s := frN h) (c := n + 1 - frN h) (fun j hj => by
      refine Nat.le_trans (ih _) ?_
      rw [frN_snoc]
      exact Nat.pow_le_pow_right (by omega) (by omega)) (n + 1 - frN h) (Nat.le_refl _)
    exact Nat.le_trans (Nat.le_add_right _ _) h1
theorem length_lvQ (n d : Nat) : (lvQ n d).length ≤ 2 ^ n := by rw [← plc_lvQ]; exact length_plcP n d []
theorem lvF_take_le (n : Nat) (l : List (List Int)) (j : Nat) : (lvF n (l.take j)).length ≤ (lvF n l).length := by
  have h := lvF_append n (l.take j) (l.drop j)
  rw [List.take_append_drop] at h
  rw [h, List.length_append]; omega

/-- Rising places of n. -/
def Inc (n : Nat) (h : List Int) : Prop := h.Pairwise (· < ·) ∧ Pl n h ∧ ∀ y ∈ h, y < (frN h : Int)
theorem Inc.nil (n : Nat) : Inc n [] := ⟨List.Pairwise.nil, by simp [Pl], by simp⟩
theorem frN_pos (h : List Int) : 1 ≤ frN h := by unfold frN; split <;> omega
theorem Inc.snoc {n : Nat} {h : List Int} (hi : Inc n h) {j : Nat} (hj : j < n + 1 - frN h) : Inc n (h ++ [(frN h : Int) + (j : Int)]) := by
  have hp := frN_pos h
  refine ⟨?_, ?_, ?_⟩
  · rw [List.pairwise_append]
    refine ⟨hi.1, by simp, fun a ha b hb => ?_⟩
    simp at hb; subst hb
    have := hi.2.2 a ha
    omega
  · intro x hx
    rcases List.mem_append.1 hx with hx | hx
    · exact hi.2.1 x hx
    · simp at hx; omega
  · intro x hx
    rw [frN_snoc]
    rcases List.mem_append.1 hx with hx | hx
    · have := hi.2.2 x hx; omega
    · simp at hx; omega
theorem inc_findK {n : Nat} {f : List Int → List (List Int)} {h : List Int} {T : List Int → Prop} (hf : ∀ j, j < n + 1 - frN h → ∀ l ∈ f (h ++ [(frN h : Int) + (j : Int)]), T l) (k : Nat) (hk : k ≤ n + 1 - frN h) : ∀ l ∈ findK f h (frN h) k, T l := by
  induction k with
  | zero => simp [findK]
  | succ k ih =>
    intro l hl
    simp only [findK] at hl
    rcases List.mem_append.1 hl with hl | hl
    · exact ih (by omega) l hl
    · exact hf k (by omega) l hl
theorem plcP_inc (n d : Nat) (h : List Int) (hi : Inc n h) : ∀ l ∈ plcP n d h, Inc n l ∧ l.length = h.length + d ∧ ∃ t, l = h ++ t := by
  induction d generalizing h with
  | zero =>
    intro l hl
    simp [plcP] at hl
    subst hl
    exact ⟨hi, by omega, [], by simp⟩
  | succ d ih =>
    refine inc_findK (fun j hj l hl => ?_) _ (Nat.le_refl _)
    obtain ⟨h1, h2, t, h3⟩ := ih _ (hi.snoc hj) l hl
    refine ⟨h1, by rw [h2]; simp; omega, [(frN h : Int) + (j : Int)] ++ t, by rw [h3]; simp⟩

/-- The numbers at i and j compare as the pattern's. -/
def PairOk (P Q h : List Int) (i j : Nat) : Prop := (Q.getD i 0 < Q.getD j 0) ↔ ((atP P h).getD i 0 < (atP P h).getD j 0)
instance (P Q h : List Int) (i j : Nat) : Decidable (PairOk P Q h i j) := by unfold PairOk; infer_instance
def Fits (P Q h : List Int) : Prop := ∀ i, i < h.length - 1 → PairOk P Q h i (h.length - 1)
instance (P Q h : List Int) : Decidable (Fits P Q h) := by unfold Fits; infer_instance
def OkP (P Q h : List Int) : Prop := ∀ j, j < h.length → ∀ i, i < j → PairOk P Q h i j
instance (P Q h : List Int) : Decidable (OkP P Q h) := by unfold OkP; infer_instance
theorem pairOk_app (P Q h t : List Int) {i j : Nat} (hi : i < h.length) (hj : j < h.length) : PairOk P Q (h ++ t) i j ↔ PairOk P Q h i j := by
  unfold PairOk
  have e : ∀ k, k < h.length → (atP P (h ++ t)).getD k 0 = (atP P h).getD k 0 := by
    intro k hk
    simp only [atP, List.map_append, List.getD]
    rw [List.getElem?_append_left (by simpa using hk)]
  rw [e i hi, e j hj]
theorem okP_app {P Q h t : List Int} (ho : OkP P Q (h ++ t)) : OkP P Q h := fun j hj i hi =>
  (pairOk_app P Q h t (by omega) hj).1 (ho j (by rw [List.length_append]; omega) i hi)
theorem okP_snoc {P Q h : List Int} {x : Int} (ho : OkP P Q h) (hf : Fits P Q (h ++ [x])) : OkP P Q (h ++ [x]) := by
  intro j hj i hi
  simp at hj
  rcases Nat.lt_or_ge j h.length with h1 | h1
  · exact (pairOk_app P Q h [x] (by omega) h1).2 (ho j h1 i hi)
  · obtain rfl : j = h.length := by omega
    have := hf i (by simp; exact hi)
    simpa using this
theorem fits_of_ok {P Q h : List Int} (ho : OkP P Q h) : Fits P Q h := fun i hi => ho (h.length - 1) (by omega) i hi

/-- The search with pruning. -/
def fndP (P Q : List Int) (n : Nat) : Nat → List Int → List (List Int)
  | 0, h => [h]
  | d + 1, h => findK (fun h' => if Fits P Q h' then fndP P Q n d h' else []) h (frN h) (n + 1 - frN h)
theorem filter_findK (p : List Int → Bool) (f : List Int → List (List Int)) (h : List Int) (s k : Nat) : (findK f h s k).filter p = findK (fun h' => (f h').filter p) h s k := by
  induction k with
  | zero => rfl
  | succ k ih => simp only [findK, List.filter_append, ih]
theorem findK_congr {f g : List Int → List (List Int)} {h : List Int} {s : Nat} (k : Nat) (hf : ∀ j, j < k → f (h ++ [(s : Int) + (j : Int)]) = g (h ++ [(s : Int) + (j : Int)])) : findK f h s k = findK g h s k := by
  induction k with
  | zero => rfl
  | succ k ih => simp only [findK]; rw [ih (fun j hj => hf j (by omega)), hf k (by omega)]
theorem fnd_filter (P Q : List Int) (n d : Nat) (h : List Int) (hi : Inc n h) (ho : OkP P Q h) : fndP P Q n d h = (plcP n d h).filter (fun l => decide (OkP P Q l)) := by
  induction d generalizing h with
  | zero => simp [fndP, plcP, ho]
  | succ d ih =>
    simp only [fndP, plcP]
    rw [filter_findK]
    refine findK_congr _ fun j hj => ?_
    by_cases hf : Fits P Q (h ++ [(frN h : Int) + (j : Int)])
    · simp only [if_pos hf]
      exact ih _ (hi.snoc hj) (okP_snoc ho hf)
    · simp only [if_neg hf]
      symm
      rw [List.filter_eq_nil_iff]
      intro l hl hd
      obtain ⟨_, _, t, ht⟩ := plcP_inc n d _ (hi.snoc hj) l hl
      have h2 := of_decide_eq_true hd
      rw [ht] at h2
      exact hf (fits_of_ok (okP_app h2))
theorem length_fndP (P Q : List Int) (n d : Nat) (h : List Int) : (fndP P Q n d h).length ≤ 2 ^ (n + 1 - frN h) := by
  induction d generalizing h with
  | zero => simp only [fndP, List.length_singleton]; exact Nat.one_le_two_pow
  | succ d ih =>
    simp only [fndP]
    have h1 := length_findK (f := fun h' => if Fits P Q h' then fndP P Q n d h' else []) (h := h) (s := frN h) (c := n + 1 - frN h) (fun j hj => by
      split
      · refine Nat.le_trans (ih _) ?_
        rw [frN_snoc]
        exact Nat.pow_le_pow_right (by omega) (by omega)
      · simp) (n + 1 - frN h) (Nat.le_refl _)
    exact Nat.le_trans (Nat.le_add_right _ _) h1

theorem countP_two {p q : Int → Bool} : ∀ (xs ys : List Int), xs.length = ys.length → (∀ (i : Nat) x y, xs[i]? = some x → ys[i]? = some y → p x = q y) → xs.countP p = ys.countP q
  | [], [], _, _ => rfl
  | [], _ :: _, h, _ => by simp at h
  | _ :: _, [], h, _ => by simp at h
  | x :: xs, y :: ys, h, hp => by
    have h1 := countP_two xs ys (by simpa using h) (fun i a b ha hb => hp (i + 1) a b (by simpa using ha) (by simpa using hb))
    have h2 := hp 0 x y rfl rfl
    simp only [List.countP_cons, h1, h2]
theorem pat_of_perm {Q : List Int} (h : IsPermL Q) : pat Q = Q := by
  unfold pat
  have : ∀ x ∈ Q, rk Q x = id x := fun x hx => by
    rw [rk_range (f := 0) (m := Q.length) h.2 rfl (fun y hy => by have := h.1 y hy; omega) hx]; simp
  rw [List.map_congr_left this]; simp
theorem idx_inj {P : List Int} (h : P.Nodup) {i j : Nat} {x : Int} (hi : P[i]? = some x) (hj : P[j]? = some x) : i = j := by
  obtain ⟨h1, h2⟩ := List.getElem?_eq_some_iff.1 hi
  obtain ⟨h3, h4⟩ := List.getElem?_eq_some_iff.1 hj
  have hp := List.pairwise_iff_getElem.1 h
  rcases Nat.lt_trichotomy i j with h5 | h5 | h5
  · exact absurd (h2.trans h4.symm) (hp i j h1 h3 h5)
  · exact h5
  · exact absurd (h4.trans h2.symm) (hp j i h3 h1 h5)
theorem atP_get {P L : List Int} {i : Nat} {x : Int} (h : L[i]? = some x) : (atP P L)[i]? = some (P.getD (x - 1).toNat 0) := by
  simp [atP, h]
theorem atP_nodup {P L : List Int} (hP : P.Nodup) (hL : Inc P.length L) : (atP P L).Nodup := by
  refine nodup_map_of (fun x hx y hy e => ?_) (hL.1.imp fun h => by omega)
  have h1 := hL.2.1 x hx
  have h2 := hL.2.1 y hy
  have e1 : P[(x - 1).toNat]? = some _ := List.getElem?_eq_getElem (by omega)
  have e2 : P[(y - 1).toNat]? = some _ := List.getElem?_eq_getElem (by omega)
  rw [getD_of e1, getD_of e2] at e
  rw [e] at e1
  have := idx_inj hP e1 e2
  omega
theorem ok_iff_pat {P Q L : List Int} (hP : P.Nodup) (hQ : IsPermL Q) (hL : Inc P.length L) (hl : L.length = Q.length) : OkP P Q L ↔ pat (atP P L) = Q := by
  have hv := atP_nodup hP hL
  have hvl : (atP P L).length = Q.length := by rw [length_atP, hl]
  constructor
  · intro ho
    refine List.ext_getElem? fun i => ?_
    rcases Nat.lt_or_ge i Q.length with hi | hi
    · have hq : Q[i]? = some _ := List.getElem?_eq_getElem hi
      have hvi : (atP P L)[i]? = some _ := List.getElem?_eq_getElem (by rw [hvl]; exact hi)
      generalize Q[i]'hi = qi at hq
      generalize (atP P L)[i]'(by rw [hvl]; exact hi) = vi at hvi
      have e : rk (atP P L) vi = rk Q qi := by
        unfold rk
        congr 2
        refine countP_two _ _ hvl fun j vj qj h1 h2 => ?_
        have hj : j < Q.length := (List.getElem?_eq_some_iff.1 h2).1
        rcases Nat.lt_trichotomy j i with h3 | h3 | h3
        · have := ho i (by rw [hl]; exact hi) j h3
          unfold PairOk at this
          rw [getD_of h2, getD_of hq, getD_of h1, getD_of hvi] at this
          exact decide_eq_decide.2 this.symm
        · subst h3
          rw [hvi] at h1; rw [hq] at h2
          cases h1; cases h2
          simp
        · have := ho j (by rw [hl]; exact hj) i h3
          unfold PairOk at this
          rw [getD_of h2, getD_of hq, getD_of h1, getD_of hvi] at this
          have hne1 : vj ≠ vi := fun e => by rw [e] at h1; have := idx_inj hv h1 hvi; omega
          have hne2 : qj ≠ qi := fun e => by rw [e] at h2; have := idx_inj hQ.2 h2 hq; omega
          refine decide_eq_decide.2 ⟨fun h4 => ?_, fun h4 => ?_⟩
          · rcases Int.lt_or_le qj qi with h5 | h5
            · exact h5
            · have := this.1 (by omega); omega
          · rcases Int.lt_or_le vj vi with h5 | h5
            · exact h5
            · have := this.2 (by omega); omega
      have hr : rk Q qi = qi := by
        have := rk_range (f := 0) (m := Q.length) hQ.2 rfl (fun y hy => by have := hQ.1 y hy; omega) (List.mem_of_getElem? hq)
        omega
      unfold pat
      rw [List.getElem?_map, hvi, hq, Option.map_some, e, hr]
    · rw [List.getElem?_eq_none (by rw [length_pat, hvl]; exact hi), List.getElem?_eq_none hi]
  · intro hp j hj i hi
    have hvi : (atP P L)[i]? = some _ := List.getElem?_eq_getElem (by rw [length_atP]; omega)
    have hvj : (atP P L)[j]? = some _ := List.getElem?_eq_getElem (by rw [length_atP]; omega)
    generalize (atP P L)[i]'(by rw [length_atP]; omega) = vi at hvi
    generalize (atP P L)[j]'(by rw [length_atP]; omega) = vj at hvj
    have hqi : Q[i]? = some (rk (atP P L) vi) := by rw [← hp]; unfold pat; rw [List.getElem?_map, hvi, Option.map_some]
    have hqj : Q[j]? = some (rk (atP P L) vj) := by rw [← hp]; unfold pat; rw [List.getElem?_map, hvj, Option.map_some]
    have hqi' : Q.getD i 0 = rk (atP P L) vi := getD_of hqi
    have hqj' : Q.getD j 0 = rk (atP P L) vj := getD_of hqj
    unfold PairOk
    rw [hqi', hqj', getD_of hvi, getD_of hvj]
    exact rk_lt_iff (List.mem_of_getElem? hvi) (List.mem_of_getElem? hvj)

/-- All occurrences. -/
def occs (P Q : List Int) : List (List Int) := (lvQ P.length Q.length).filter fun l => decide (pat (atP P l) = Q)
theorem fnd_occs {P Q : List Int} (hP : IsPermL P) (hQ : IsPermL Q) : fndP P Q P.length Q.length [] = occs P Q := by
  rw [fnd_filter P Q _ _ [] (Inc.nil _) (fun j hj => by simp at hj), plc_lvQ]
  unfold occs
  refine List.filter_congr fun l hl => ?_
  rw [← plc_lvQ] at hl
  obtain ⟨h1, h2, _⟩ := plcP_inc _ _ _ (Inc.nil _) l hl
  exact decide_eq_decide.2 (ok_iff_pat hP.2 hQ h1 (by rw [h2]; simp))
def occsP (P Q : List Int) : List (List Int) := if Perm8 P ∧ Perm8 Q then occs P Q else []
theorem rows_lvQ (n d : Nat) : ∀ l ∈ lvQ n d, Inc n l ∧ l.length = d := by
  intro l hl
  rw [← plc_lvQ] at hl
  obtain ⟨h1, h2, _⟩ := plcP_inc _ _ _ (Inc.nil _) l hl
  exact ⟨h1, by rw [h2]; simp⟩
theorem pow8 {n : Nat} (h : n ≤ 8) : 2 ^ n ≤ 256 := Nat.le_trans (Nat.pow_le_pow_right (by omega) h) (by decide)
theorem length_occs {P Q : List Int} (h : P.length ≤ 8) : (occs P Q).length ≤ 256 := by
  unfold occs
  exact Nat.le_trans (List.length_filter_le _ _) (Nat.le_trans (length_lvQ _ _) (pow8 h))
theorem bound_occsP (P Q : List Int) : totL (occsP P Q) ≤ 2097152 ∧ (occsP P Q).length ≤ 2097152 := by
  unfold occsP; split
  · rename_i h
    refine bound_rows (k := 256) (m := 8) (length_occs h.1.1) (fun r hr => ?_) (by omega) (by omega)
    have := rows_lvQ _ _ r (List.mem_filter.1 hr).1
    have h2 := h.2.1
    omega
  · simp [totL]
end Go.Proofs.Ytmojniiimondfaa
