/- The walks of slices.Index and slices.Contains on slices of integers; a row appended to a slice of slices. Conditions: the length is at most 2^21. -/
import Derived.Test.YtmojniiimondfaaF18
namespace Go.Proofs.Ytmojniiimondfaa
open Go.RowKit
theorem first_of_mem {xs : List Int} {v : Int} (h : v ∈ xs) : ∃ j, j < xs.length ∧ xs[j]? = some v ∧ v ∉ xs.take j := by
  induction xs with
  | nil => cases h
  | cons x xs ih =>
    by_cases hx : v = x
    · exact ⟨0, by simp, by simp [hx], by simp⟩
    · rcases List.mem_cons.1 h with h | h
      · exact absurd h hx
      · obtain ⟨j, h1, h2, h3⟩ := ih h
        exact ⟨j + 1, by simp; omega, by simpa using h2, by simp [hx, h3]⟩

/-- All slices of integers that a call owns stay as they are. -/
def Keep (w w' : World) : Prop := ∀ B a n c xs, OwnI w B a n c xs → OwnI w' B a n c xs
theorem Keep.refl (w : World) : Keep w w := fun _ _ _ _ _ h => h
theorem Keep.trans {a b c : World} (h : Keep a b) (k : Keep b c) : Keep a c := fun _ _ _ _ _ ho => k _ _ _ _ _ (h _ _ _ _ _ ho)
theorem Below.keep {w w' : World} (h : Below w.heap.size w w') : Keep w w' := fun _ _ _ _ _ ho => ho.below h
theorem Keep.ins {w w' : World} (h : Keep w w') {lo hi n c : Nat} {a : Option Addr} {xs : List Int} (ho : OwnIn w lo hi a n c xs) : OwnIn w' lo hi a n c xs := ⟨h _ _ _ _ _ ho.1, ho.2⟩

/-- 'append(out, row)', row the call's own and no row of out; what the call owns of integers stays. -/
theorem wpList_appII' {w : World} {ops : Array Oper} {rest : List Oper} {o : Oper} {act : Act} {Q : Exit → Act → World → Prop} (hgd : o.guard = none) (s x : Operand)
    (ho : o.op = .call { callee := .builtin .append, args := #[s, x], argTypes := #[40, 40] })
    (lo hi mid : Nat) (a : Option Addr) (n c : Nat) (xss : List (List Int)) (hs : act.eval s = .slice a n c) (hown : OwnII w lo hi a n c xss)
    (ra : Option Addr) (rn rc : Nat) (xs : List Int) (hrow : OwnIn w mid w.heap.size ra rn rc xs) (hmid : hi ≤ mid ∨ n = 0) (hlo : lo ≤ mid)
    (g0 : Nat) (hx : act.eval x = .slice (some ⟨g0, 0, none⟩) 1 1) (hg0 : w.heap.size = g0) (hn : n < 4194304) (hB : lo ≤ w.heap.size) (hhi : hi ≤ w.heap.size)
    (h : ∀ a' c' w', OwnII w' lo w'.heap.size a' (n + 1) c' (xss ++ [xs]) → Below lo w w' → Keep w w' → w.heap.size ≤ w'.heap.size → wpList Try.prog ops Q rest (act.put o.dst (.slice a' (n + 1) c')) w') :
    wpList Try.prog ops Q (o :: rest) act (w.alloc (.cells #[.slice ra rn rc] 28)) := by
  subst hg0
  obtain ⟨rs, h1, h2, h3, h4, h5, h6⟩ := hown
  refine wpList_app1 hgd s x 40 ho lo 28 (.slice none 0 0) 24 Try.underlying40 infoRow rfl a n c _ hs h3 _ rfl hx hn (by omega) hB ?_
  intro a' c' w' g1 g2 g3
  have hsz : w.heap.size ≤ w'.heap.size := g3.size
  refine h a' c' w' ?_ g3 (fun B b m d ys hq => hq.grown g2 (own_types_ne hq.2 h3 (by decide))) hsz
  refine ⟨rs ++ [(ra, rn, rc)], by rw [List.length_append, h1]; rfl, by rw [List.length_append, h2]; rfl, by rw [List.map_append]; exact g1, fun p hp => ?_, ?_, ?_⟩
  · subst hp; exact (g1.lt p.block rfl).2
  · intro i r ys hr hy
    have old : ∀ (l m : Nat) (q : Option Addr × Nat × Nat) (zs : List Int), OwnIn w l m q.1 q.2.1 q.2.2 zs → lo ≤ l → m ≤ w.heap.size → OwnIn w' lo w'.heap.size q.1 q.2.1 q.2.2 zs := by
      intro l m q zs hq hl hm
      have e := hq.1.grown g2 (own_types_ne hq.1.2 h3 (by decide))
      exact ⟨e.mono hl, fun p hp => by have := hq.2 p hp; omega⟩
    rcases Nat.lt_or_ge i n with hin | hin
    · rw [List.getElem?_append_left (by omega)] at hr
      rw [List.getElem?_append_left (by omega)] at hy
      exact old lo hi r ys (h5 i r ys hr hy) (Nat.le_refl _) hhi
    · rw [List.getElem?_append_right (by omega)] at hr
      rw [List.getElem?_append_right (by omega)] at hy
      obtain rfl : i = n := by
        have := (List.getElem?_eq_some_iff.1 hr).1
        simp at this; omega
      simp only [h2, h1, Nat.sub_self, List.getElem?_cons_zero, Option.some.injEq] at hr hy
      subst hr; subst hy
      exact old mid _ _ _ hrow (by omega) (Nat.le_refl _)
  · intro i j r s' p q hij hr hs' hp hq
    have hjn : j < n + 1 := by
      have := (List.getElem?_eq_some_iff.1 hs').1
      simp [h2] at this; omega
    rw [List.getElem?_append_left (by omega)] at hr
    rcases Nat.lt_or_ge j n with hj | hj
    · rw [List.getElem?_append_left (by omega)] at hs'
      exact h6 i j r s' p q hij hr hs' hp hq
    · rw [List.getElem?_append_right (by omega)] at hs'
      obtain rfl : j = n := by omega
      simp only [h2, Nat.sub_self, List.getElem?_cons_zero, Option.some.injEq] at hs'
      subst hs'
      have hxs : xss[i]? = some _ := List.getElem?_eq_getElem (by omega)
      have b1 := (h5 i r _ hr hxs).2 p hp
      have b2 := (hrow.1.lo q hq).1
      omega
end Go.Proofs.Ytmojniiimondfaa
