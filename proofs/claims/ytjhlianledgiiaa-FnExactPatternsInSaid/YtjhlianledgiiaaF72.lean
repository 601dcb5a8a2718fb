/- The patterns of a length, in plain lists: those of all rising places are those of all masks. No condition. -/
import Derived.Test.YtjhlianledgiiaaF27
import Derived.Test.YtjhlianledgiiaaF39
namespace Go.Proofs.Ytjhlianledgiiaa
open Go.RowKit

def plS (s n : Nat) : List Int := ((List.range n).filter fun j => s.testBit j).map fun (j : Nat) => (j : Int) + 1
def mkL (xs : List Int) (s i : Nat) : List Int := ((List.range i).filter fun j => s.testBit j).map fun j => xs.getD j 0
theorem mkL_at (xs : List Int) (s n : Nat) : mkL xs s n = atP xs (plS s n) := by
  unfold mkL plS atP
  rw [List.map_map]
  refine List.map_congr_left fun j _ => ?_
  have : ((j : Int) + 1 - 1).toNat = j := by omega
  simp only [Function.comp, this]
theorem mkL_yes {xs : List Int} {s i : Nat} (h : s.testBit i = true) : mkL xs s (i + 1) = mkL xs s i ++ [xs.getD i 0] := by
  unfold mkL
  rw [List.range_succ, List.filter_append, List.map_append]
  simp [h]
theorem mkL_no {xs : List Int} {s i : Nat} (h : s.testBit i = false) : mkL xs s (i + 1) = mkL xs s i := by
  unfold mkL
  rw [List.range_succ, List.filter_append, List.map_append]
  simp [h]
theorem mkL_le (xs : List Int) (s i : Nat) : (mkL xs s i).length ≤ i := by
  unfold mkL
  rw [List.length_map]
  exact Nat.le_trans (List.length_filter_le _ _) (by simp)
/-- Rising places of n. -/
def Inc0 (n : Nat) (l : List Int) : Prop := l.Pairwise (· < ·) ∧ Pl n l
theorem plS_inc0 (s n : Nat) : Inc0 n (plS s n) := by
  constructor
  · unfold plS
    rw [List.pairwise_map]
    refine List.Pairwise.imp (R := fun a b : Nat => a < b) (fun h => by omega) ?_
    exact List.Pairwise.filter _ List.pairwise_lt_range
  · intro x hx
    obtain ⟨j, hj, rfl⟩ := List.mem_map.1 hx
    have := List.mem_range.1 (List.mem_filter.1 hj).1
    omega
theorem mem_findK (h : List Int) (s : Nat) : ∀ (k j : Nat), j < k → (h ++ [(s : Int) + (j : Int)]) ∈ findK one' h s k
  | 0, j, hj => by omega
  | k + 1, j, hj => by
    simp only [findK]
    rcases Nat.lt_or_ge j k with h1 | h1
    · exact List.mem_append.2 (.inl (mem_findK h s k j h1))
    · obtain rfl : j = k := by omega
      exact List.mem_append.2 (.inr (by simp [one']))
theorem snocInd' {α : Type} {motive : List α → Prop} (nil : motive []) (snoc : ∀ l x, motive l → motive (l ++ [x])) (l : List α) : motive l := by
  have : ∀ m : List α, motive m.reverse := by
    intro m
    induction m with
    | nil => exact nil
    | cons x m ih => rw [List.reverse_cons]; exact snoc _ _ ih
  have h := this l.reverse
  rwa [List.reverse_reverse] at h
theorem lvQ_all (n : Nat) (l : List Int) : Inc0 n l → l ∈ lvQ n l.length := by
  induction l using snocInd' with
  | nil => intro _; simp [lvQ]
  | snoc h x ih =>
    rintro ⟨h1, h2⟩
    rw [List.pairwise_append] at h1
    have hh : Inc0 n h := ⟨h1.1, fun y hy => h2 y (List.mem_append_left _ hy)⟩
    have hx := h2 x (by simp)
    have hm := ih hh
    have hfr : (frN h : Int) ≤ x := by
      unfold frN
      cases hg : h.getLast? with
      | none => simp only; omega
      | some t =>
        simp only
        have ht : t ∈ h := List.mem_of_getLast? hg
        have h3 := h1.2.2 t ht x (by simp)
        have h4 := hh.2 t ht
        omega
    rw [List.length_append, List.length_cons, List.length_nil, Nat.zero_add]
    show h ++ [x] ∈ lvF n (lvQ n h.length)
    rw [lvF_flat]
    refine List.mem_flatMap.2 ⟨h, hm, ?_⟩
    have h5 := mem_findK h (frN h) (n + 1 - frN h) (x - (frN h : Int)).toNat (by omega)
    have e : (frN h : Int) + ((x - (frN h : Int)).toNat : Int) = x := by omega
    rwa [e] at h5
theorem plS_low {s n : Nat} (h : s < 2 ^ n) : plS s (n + 1) = plS s n := by
  unfold plS
  rw [List.range_succ, List.filter_append, List.map_append]
  simp [Nat.testBit_lt_two_pow h]
theorem plS_high {s n : Nat} (h : s < 2 ^ n) : plS (2 ^ n + s) (n + 1) = plS s n ++ [(n : Int) + 1] := by
  unfold plS
  rw [List.range_succ, List.filter_append, List.map_append]
  have h1 : (2 ^ n + s).testBit n = true := by rw [Nat.testBit_two_pow_add_eq, Nat.testBit_lt_two_pow h]; rfl
  have h2 : (List.range n).filter (fun j => (2 ^ n + s).testBit j) = (List.range n).filter (fun j => s.testBit j) := by
    refine List.filter_congr fun j hj => ?_
    rw [Nat.testBit_two_pow_add_gt (List.mem_range.1 hj)]
  rw [h2]
  simp [h1]
theorem plS_ex : ∀ (n : Nat) (l : List Int), Inc0 n l → ∃ s, s < 2 ^ n ∧ plS s n = l
  | 0, l, h => by
    have e : l = [] := by
      cases l with
      | nil => rfl
      | cons x r => have := h.2 x (by simp); omega
    exact ⟨0, by simp, by rw [e]; rfl⟩
  | n + 1, l, h => by
    by_cases hl : l.getLast? = some ((n : Int) + 1)
    · have he : l = l.dropLast ++ [(n : Int) + 1] := by
        have h1 : l ≠ [] := by intro e; rw [e] at hl; simp at hl
        have h2 := List.dropLast_concat_getLast h1
        rw [List.getLast?_eq_some_getLast h1] at hl
        rw [Option.some.inj hl] at h2
        exact h2.symm
      rw [he] at h
      have hd : Inc0 n l.dropLast := by
        obtain ⟨h1, h2⟩ := h
        rw [List.pairwise_append] at h1
        refine ⟨h1.1, fun y hy => ?_⟩
        have h3 := h2 y (List.mem_append_left _ hy)
        have h4 := h1.2.2 y hy ((n : Int) + 1) (by simp)
        omega
      obtain ⟨s, hs, e⟩ := plS_ex n _ hd
      refine ⟨2 ^ n + s, by rw [Nat.pow_succ]; omega, ?_⟩
      rw [plS_high hs, e, ← he]
    · have hd : Inc0 n l := by
        refine ⟨h.1, fun y hy => ?_⟩
        have h1 := h.2 y hy
        refine ⟨h1.1, ?_⟩
        by_cases h2 : y = (n : Int) + 1
        · exfalso
          apply hl
          have hne : l ≠ [] := by intro e; rw [e] at hy; simp at hy
          rw [List.getLast?_eq_some_getLast hne]
          have h3 := List.dropLast_concat_getLast hne
          have h4 := h.2 (l.getLast hne) (List.getLast_mem hne)
          rw [← h3] at hy
          rcases List.mem_append.1 hy with h5 | h5
          · have h6 := h.1
            rw [← h3, List.pairwise_append] at h6
            have := h6.2.2 y h5 (l.getLast hne) (by simp)
            omega
          · simp at h5; rw [← h5, h2]
        · omega
      obtain ⟨s, hs, e⟩ := plS_ex n l hd
      exact ⟨s, by rw [Nat.pow_succ]; omega, by rw [plS_low hs, e]⟩
/-- The patterns, by places, and by masks below m. -/
def ptsA (xs : List Int) (k : Nat) : List (List Int) := (lvQ xs.length k).map fun l => pat (atP xs l)
def ptsB (xs : List Int) (k m : Nat) : List (List Int) := ((List.range m).filter fun s => decide ((mkL xs s xs.length).length = k)).map fun s => pat (mkL xs s xs.length)
theorem pts_same (xs : List Int) (k : Nat) : ordL (ptsA xs k) = ordL (ptsB xs k (2 ^ xs.length)) := by
  obtain ⟨h1, h2⟩ := ordL_spec (ptsA xs k)
  obtain ⟨h3, h4⟩ := ordL_spec (ptsB xs k (2 ^ xs.length))
  refine Asc.unique h1 h3 fun x => ?_
  rw [h2 x, h4 x]
  constructor
  · intro h
    obtain ⟨l, hl, rfl⟩ := List.mem_map.1 h
    obtain ⟨hi, hk⟩ := rows_lvQ xs.length k l hl
    obtain ⟨s, hs, e⟩ := plS_ex xs.length l ⟨hi.1, hi.2.1⟩
    refine List.mem_map.2 ⟨s, List.mem_filter.2 ⟨List.mem_range.2 hs, ?_⟩, ?_⟩
    · rw [mkL_at, e, length_atP, hk]; simp
    · rw [mkL_at, e]
  · intro h
    obtain ⟨s, hs, rfl⟩ := List.mem_map.1 h
    obtain ⟨hs1, hs2⟩ := List.mem_filter.1 hs
    have hk : (mkL xs s xs.length).length = k := by simpa using hs2
    rw [mkL_at, length_atP] at hk
    refine List.mem_map.2 ⟨plS s xs.length, ?_, by rw [mkL_at]⟩
    have := lvQ_all xs.length _ (plS_inc0 s xs.length)
    rwa [hk] at this
theorem ptsB_yes {xs : List Int} {k m : Nat} (h : (mkL xs m xs.length).length = k) : ptsB xs k (m + 1) = ptsB xs k m ++ [pat (mkL xs m xs.length)] := by
  unfold ptsB
  rw [List.range_succ, List.filter_append, List.map_append]
  simp [h]
theorem ptsB_no {xs : List Int} {k m : Nat} (h : ¬ (mkL xs m xs.length).length = k) : ptsB xs k (m + 1) = ptsB xs k m := by
  unfold ptsB
  rw [List.range_succ, List.filter_append, List.map_append]
  simp [h]
theorem length_ptsB (xs : List Int) (k m : Nat) : (ptsB xs k m).length ≤ m := by
  unfold ptsB
  rw [List.length_map]
  exact Nat.le_trans (List.length_filter_le _ _) (by simp)
theorem rows_ptsB {xs : List Int} (h : xs.length ≤ 8) (k m : Nat) : ∀ r ∈ ptsB xs k m, r.length ≤ 8 := by
  intro r hr
  obtain ⟨s, _, rfl⟩ := List.mem_map.1 hr
  rw [length_pat]
  exact Nat.le_trans (mkL_le _ _ _) h
theorem rows_ptsA {xs : List Int} (h : xs.length ≤ 8) (k : Nat) (hk : k ≤ 8) : ∀ r ∈ ptsA xs k, r.length ≤ 8 := by
  intro r hr
  obtain ⟨l, hl, rfl⟩ := List.mem_map.1 hr
  rw [length_pat, length_atP, (rows_lvQ _ _ l hl).2]; exact hk
theorem length_ptsA {xs : List Int} (h : xs.length ≤ 8) (k : Nat) : (ptsA xs k).length ≤ 256 := by
  unfold ptsA
  rw [List.length_map]
  exact Nat.le_trans (length_lvQ _ _) (pow8 h)
def ptsP (xs : List Int) (k : Int) : List (List Int) := if Perm8 xs ∧ 0 ≤ k ∧ k ≤ (xs.length : Int) then ordL (ptsA xs k.toNat) else []
end Go.Proofs.Ytjhlianledgiiaa
