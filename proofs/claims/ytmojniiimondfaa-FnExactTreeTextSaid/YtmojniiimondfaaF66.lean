/- The reference's l3Put: a list put into an ordered list, once. Conditions: as the names say. -/
import Derived.Test.YtmojniiimondfaaF65
namespace Go.Proofs.Ytmojniiimondfaa
open Go.RowKit

theorem _root_.Go.World.grownBy.trans' {a b c : World} {row : Option Nat} (h : a.grownBy b row) (k : b.grownBy c row) : a.grownBy c row := grownBy_trans h k
/-- The rows with one more between them. -/
theorem putRows {w w9 : World} {lo hi n c g g9 c9 kk : Nat} {rs : List (Option Addr × Nat × Nat)} {xss : List (List Int)} {p : List Int} (h : OwnIIr w lo hi (some ⟨g, 0, none⟩) n c rs xss) (hg : w.grownBy w9 (some g)) (hk : kk ≤ n)
    {a7 : Option Addr} {m c7 t : Nat} (ht : hi ≤ t) (hlo : lo ≤ t) (ho : OwnI w9 t a7 m c7 p) (hown : w9.ownsRow lo 28 1 (.slice (some ⟨g9, 0, none⟩) (n + 1) c9) (n + 1) ((rs.take kk ++ (a7, m, c7) :: rs.drop kk).map sl3)) :
    OwnIIr w9 lo w9.heap.size (some ⟨g9, 0, none⟩) (n + 1) c9 (rs.take kk ++ (a7, m, c7) :: rs.drop kk) (xss.take kk ++ p :: xss.drop kk) := by
  obtain ⟨h1, h2, h3, h4, h5, h6⟩ := h
  have hsz := hg.size
  have old : ∀ (i : Nat) (r : Option Addr × Nat × Nat) (ys : List Int), rs[i]? = some r → xss[i]? = some ys → OwnIn w9 lo w9.heap.size r.1 r.2.1 r.2.2 ys := by
    intro i r ys hr hy
    have q := h5 i r ys hr hy
    exact ((q.1.grown hg (own_types_ne q.1.2 h3 (by decide))).ins).mono (Nat.le_refl _) (Nat.le_refl _)
  have hb : ∀ (i : Nat) (r : Option Addr × Nat × Nat) (q : Addr), rs[i]? = some r → r.1 = some q → q.block < hi := by
    intro i r q hr hq
    have hi' : i < rs.length := (List.getElem?_eq_some_iff.1 hr).1
    exact (h5 i r _ hr (List.getElem?_eq_getElem (by omega))).2 q hq
  have hn : ∀ q, a7 = some q → hi ≤ q.block := fun q hq => by have := (ho.lo q hq).1; omega
  have hlt : (rs.take kk).length = kk := by rw [List.length_take]; omega
  have hlx : (xss.take kk).length = kk := by rw [List.length_take]; omega
  -- the entry at place i
  have ent : ∀ (i : Nat) (r : Option Addr × Nat × Nat), (rs.take kk ++ (a7, m, c7) :: rs.drop kk)[i]? = some r → (i = kk ∧ r = (a7, m, c7)) ∨ ∃ j, rs[j]? = some r ∧ ((i < kk ∧ j = i) ∨ (kk < i ∧ i = j + 1)) := by
    intro i r hr
    rcases Nat.lt_trichotomy i kk with h | h | h
    · rw [List.getElem?_append_left (by omega), List.getElem?_take_of_lt h] at hr
      exact .inr ⟨i, hr, .inl ⟨h, rfl⟩⟩
    · subst h
      rw [List.getElem?_append_right (by omega), hlt, Nat.sub_self] at hr
      simp at hr
      exact .inl ⟨rfl, hr.symm⟩
    · obtain ⟨j, rfl⟩ : ∃ j, i = j + 1 := ⟨i - 1, by omega⟩
      rw [List.getElem?_append_right (by omega), hlt, show j + 1 - kk = (j - kk) + 1 by omega, List.getElem?_cons_succ, List.getElem?_drop, show kk + (j - kk) = j by omega] at hr
      exact .inr ⟨j, hr, .inr ⟨h, rfl⟩⟩
  refine ⟨by rw [List.length_append, List.length_cons, hlx, List.length_drop]; omega, by rw [List.length_append, List.length_cons, hlt, List.length_drop]; omega, hown, fun q hq => by obtain rfl := Option.some.inj hq; exact (hown.lt g9 rfl).2, ?_, ?_⟩
  · intro i r ys hr hy
    rcases ent i r hr with ⟨rfl, rfl⟩ | ⟨j, hj, hij⟩
    · rw [List.getElem?_append_right (by omega), hlx, Nat.sub_self] at hy
      simp at hy
      subst hy
      exact (ho.mono hlo).ins
    · refine old j r ys hj ?_
      rcases hij with ⟨h, rfl⟩ | ⟨h, rfl⟩
      · rw [List.getElem?_append_left (by omega), List.getElem?_take_of_lt h] at hy; exact hy
      · rw [List.getElem?_append_right (by omega), hlx, show j + 1 - kk = (j - kk) + 1 by omega, List.getElem?_cons_succ, List.getElem?_drop, show kk + (j - kk) = j by omega] at hy
        exact hy
  · intro i j r s q q' hij hr hs hq hq'
    rcases ent i r hr with ⟨rfl, rfl⟩ | ⟨i', hi', hi2⟩
    · rcases ent j s hs with ⟨rfl, rfl⟩ | ⟨j', hj', hj2⟩
      · omega
      · have e1 := hn q hq; have e2 := hb j' s q' hj' hq'; omega
    · rcases ent j s hs with ⟨rfl, rfl⟩ | ⟨j', hj', hj2⟩
      · have e1 := hn q' hq'; have e2 := hb i' r q hi' hq; omega
      · exact h6 i' j' r s q q' (by omega) hi' hj' hq hq'

end Go.Proofs.Ytmojniiimondfaa
