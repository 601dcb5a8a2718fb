/- Plain facts on cutting bytes at a byte, and on joining. No program in sight. -/
import Derived.Test.YtmojniiimondfaaLib
import Derived.Lib.SplitLaws
import Derived.Lib.Join
namespace Go.Proofs.Ytmojniiimondfaa
open Go.RowKit

/-- The bytes cut at each c. -/
def spl (c : UInt8) : List UInt8 → List (List UInt8)
  | [] => [[]]
  | b :: r => if b = c then [] :: spl c r else match spl c r with
    | [] => [[b]]
    | p :: ps => (b :: p) :: ps
theorem spl_ne (c : UInt8) : ∀ l, spl c l ≠ []
  | [] => by simp [spl]
  | b :: r => by
    unfold spl
    split
    · simp
    · split <;> simp
theorem spl_seg (c : UInt8) (r : List UInt8) : ∀ p : List UInt8, (∀ x ∈ p, x ≠ c) → spl c (p ++ c :: r) = p :: spl c r
  | [], _ => by simp [spl]
  | b :: p, h => by
    have h1 := spl_seg c r p (fun x hx => h x (List.mem_cons_of_mem _ hx))
    have h2 := h b (List.mem_cons_self ..)
    rw [List.cons_append, spl, if_neg h2, h1]
theorem spl_none (c : UInt8) : ∀ p : List UInt8, (∀ x ∈ p, x ≠ c) → spl c p = [p]
  | [], _ => rfl
  | b :: p, h => by
    have h1 := spl_none c p (fun x hx => h x (List.mem_cons_of_mem _ hx))
    have h2 := h b (List.mem_cons_self ..)
    rw [spl, if_neg h2, h1]
theorem spl_free (c : UInt8) : ∀ (l : List UInt8), ∀ p ∈ spl c l, ∀ x ∈ p, x ≠ c
  | [], p, hp, x, hx => by simp [spl] at hp; subst hp; simp at hx
  | b :: r, p, hp, x, hx => by
    have ih := spl_free c r
    unfold spl at hp
    split at hp
    · rcases List.mem_cons.1 hp with rfl | hp
      · simp at hx
      · exact ih p hp x hx
    · rename_i hb
      split at hp
      · simp at hp; subst hp; simp at hx; subst hx; exact hb
      · rename_i q qs hq
        rw [hq] at ih
        rcases List.mem_cons.1 hp with rfl | hp
        · rcases List.mem_cons.1 hx with rfl | hx
          · exact hb
          · exact ih q (List.mem_cons_self ..) x hx
        · exact ih p (List.mem_cons_of_mem _ hp) x hx
theorem spl_len (c : UInt8) : ∀ l, (spl c l).length ≤ l.length + 1
  | [] => by simp [spl]
  | b :: r => by
    have ih := spl_len c r
    unfold spl
    split
    · simp; omega
    · split
      · simp
      · rename_i q qs hq
        rw [hq] at ih; simp at ih ⊢; omega
theorem spl_rows (c : UInt8) : ∀ l, ∀ p ∈ spl c l, p.length ≤ l.length
  | [], p, hp => by simp [spl] at hp; subst hp; simp
  | b :: r, p, hp => by
    have ih := spl_rows c r
    unfold spl at hp
    split at hp
    · rcases List.mem_cons.1 hp with rfl | hp
      · simp
      · have := ih p hp; simp; omega
    · split at hp
      · simp at hp; subst hp; simp
      · rename_i q qs hq
        rw [hq] at ih
        rcases List.mem_cons.1 hp with rfl | hp
        · have := ih q (List.mem_cons_self ..); simp; omega
        · have := ih p (List.mem_cons_of_mem _ hp); simp; omega
/-- Joined at the byte again. -/
theorem spl_join (c : UInt8) : ∀ l, Lib.join (spl c l) [c] = l
  | [] => by simp [spl, Lib.join_one]
  | b :: r => by
    have ih := spl_join c r
    unfold spl
    cases hs : spl c r with
    | nil => exact absurd hs (spl_ne c r)
    | cons q qs =>
      rw [hs, Lib.join_cons] at ih
      by_cases hb : b = c
      · subst hb
        rw [if_pos rfl, Lib.join_cons]
        simp only [Lib.joinTail, List.map_cons, List.flatten_cons, List.nil_append] at ih ⊢
        rw [List.append_assoc, ih]; rfl
      · rw [if_neg hb]
        simp only
        rw [Lib.join_cons, List.cons_append, ih]

theorem index_cons_ne (b c : UInt8) (l : List UInt8) (h : b ≠ c) : Lib.index (b :: l) [c] = if Lib.index l [c] == -1 then -1 else Lib.index l [c] + 1 := by
  have hp : ([c] : List UInt8).isPrefixOf (b :: l) = false := by simp [List.isPrefixOf, Ne.symm h]
  rw [Lib.index, hp]; simp
theorem index_cons_eq (c : UInt8) (l : List UInt8) : Lib.index (c :: l) [c] = 0 := by
  rw [Lib.index]; simp [List.isPrefixOf]
/-- The library's cutting at all instances of one byte is this. -/
theorem split_spl (c : UInt8) : ∀ l : List UInt8, Lib.splitK [c] 0 (Lib.count l [c]) l = spl c l
  | [] => by
    have h : Lib.count [] [c] = 0 := by rw [Lib.count_one]; rfl
    rw [h]; rfl
  | b :: l => by
    have ih := split_spl c l
    by_cases h : b = c
    · subst h
      rw [Lib.count_cons_eq, Nat.add_comm, Lib.splitK, index_cons_eq]
      simp only [spl, if_true]
      rw [if_neg (by decide)]
      simp only [Int.toNat_zero, Nat.add_zero, List.take_zero, List.length_cons, List.length_nil, Nat.zero_add, List.drop_succ_cons, List.drop_zero]
      rw [ih]
    · rw [Lib.count_cons_ne b c l h]
      unfold spl
      rw [if_neg h, ← ih]
      cases hk : Lib.count l [c] with
      | zero => rfl
      | succ k =>
        rw [Lib.splitK, Lib.splitK, index_cons_ne b c l h]
        by_cases hm : Lib.index l [c] = -1
        · rw [hm]; rfl
        · have hge := Lib.index_ge l [c]
          obtain ⟨j, hj⟩ : ∃ j : Nat, Lib.index l [c] = j := ⟨(Lib.index l [c]).toNat, by omega⟩
          have e1 : ((j : Int) == -1) = false := by rw [beq_eq_false_iff_ne]; omega
          have e2 : ((j : Int) + 1 == -1) = false := by rw [beq_eq_false_iff_ne]; omega
          have e3 : ((j : Int) + 1).toNat = j + 1 := by omega
          rw [hj]
          simp only [e1, e2, Bool.false_eq_true, if_false, Int.toNat_natCast, e3, List.length_cons, List.length_nil, Nat.zero_add, Nat.add_zero, List.take_succ_cons, List.drop_succ_cons]
/-- The pieces laid so far, and the rest from a place on. -/
theorem spl_step {c : UInt8} {l : List UInt8} {done : List (List UInt8)} {f i : Nat} (hf : f ≤ i) (h : spl c l = done ++ spl c (l.drop f)) (hn : ∀ x ∈ (l.drop f).take (i - f), x ≠ c) (hi : l[i]? = some c) :
    spl c l = (done ++ [(l.drop f).take (i - f)]) ++ spl c (l.drop (i + 1)) := by
  have hlt : i < l.length := (List.getElem?_eq_some_iff.1 hi).1
  have e : l.drop f = (l.drop f).take (i - f) ++ c :: l.drop (i + 1) := by
    have h1 : (l.drop f).drop (i - f) = l.drop i := by rw [List.drop_drop]; congr 1; omega
    have h2 : l.drop i = c :: l.drop (i + 1) := by
      rw [List.drop_eq_getElem_cons hlt]
      congr 1
      rw [List.getElem?_eq_getElem hlt] at hi
      exact Option.some.inj hi
    conv => lhs; rw [← List.take_append_drop (i - f) (l.drop f), h1, h2]
  conv => lhs; rw [h]
  conv => lhs; rw [e]
  rw [spl_seg c _ _ hn, List.append_assoc]; rfl
theorem spl_last {c : UInt8} {l : List UInt8} {done : List (List UInt8)} {f : Nat} (h : spl c l = done ++ spl c (l.drop f)) (hn : ∀ x ∈ (l.drop f).take (l.length - f), x ≠ c) :
    spl c l = done ++ [(l.drop f).take (l.length - f)] := by
  have e : (l.drop f).take (l.length - f) = l.drop f := List.take_of_length_le (by simp)
  rw [e] at hn ⊢
  rw [h, spl_none c _ hn]
theorem seg_grow {c x : UInt8} {l : List UInt8} {f i : Nat} (hf : f ≤ i) (hn : ∀ x ∈ (l.drop f).take (i - f), x ≠ c) (hi : l[i]? = some x) (hx : x ≠ c) : ∀ x ∈ (l.drop f).take (i + 1 - f), x ≠ c := by
  have e : (l.drop f)[i - f]? = some x := by rw [List.getElem?_drop]; rw [show f + (i - f) = i by omega]; exact hi
  rw [show i + 1 - f = (i - f) + 1 by omega, take_snoc e]
  intro y hy
  rcases List.mem_append.1 hy with h | h
  · exact hn y h
  · simp at h; subst h; exact hx
end Go.Proofs.Ytmojniiimondfaa
