/- Helpers of the split's loop: appends that tell where the result lies. Conditions: as the names say. -/
import Derived.Test.YtjhlianledgiiaaF49
import Derived.Test.YtjhlianledgiiaaF45
import Derived.ArgAppend
import Derived.OwnWalk
namespace Go.Proofs.Ytjhlianledgiiaa
open Go.RowKit

theorem OwnIIr.grownRow {w w' : World} {lo hi n c : Nat} {a : Option Addr} {rs : List (Option Addr × Nat × Nat)} {xss : List (List Int)} {row : Option Nat} (h : OwnIIr w lo hi a n c rs xss) (hg : w.grownBy w' row)
    (hrow : ∀ k, row = some k → ∀ r ∈ rs, ∀ p, r.1 = some p → p.block ≠ k) (harr : (Value.slice a n c).ownBlock = none ∨ (Value.slice a n c).ownBlock ≠ row) : OwnIIr w' lo hi a n c rs xss := by
  obtain ⟨h1, h2, h3, h4, h5, h6⟩ := h
  refine ⟨h1, h2, h3.kept hg harr, h4, fun i r xs hr hx => ⟨(h5 i r xs hr hx).1.grown hg ?_, (h5 i r xs hr hx).2⟩, h6⟩
  obtain ⟨ra, rn, rc⟩ := r
  cases ra with
  | none => exact .inl rfl
  | some p =>
    refine .inr ?_
    intro e
    have e' : row = some p.block := e.symm
    exact hrow _ e' _ (List.mem_of_getElem? hr) p rfl rfl

/-- 'append(out, y)' on the call's own slice of integers, and where it lies. -/
theorem wpList_appIx {w : World} {ops : Array Oper} {rest : List Oper} {o : Oper} {act : Act} {Q : Exit → Act → World → Prop} (hgd : o.guard = none) (s x : Operand)
    (ho : o.op = .call { callee := .builtin .append, args := #[s, x], argTypes := #[22, 22] })
    (B : Nat) (a : Option Addr) (n c : Nat) (xs : List Int) (hs : act.eval s = .slice a n c) (hown : OwnI w B a n c xs)
    (y : Int) (hx : act.eval x = .slice (some ⟨w.heap.size, 0, none⟩) 1 1) (hn : n < 4194304) (hB : B ≤ w.heap.size)
    (h : ∀ a' c' w', OwnI w' B a' (n + 1) c' (xs ++ [y]) → w.grownBy w' (Value.slice a n c).ownBlock → (∀ p, a' = some p → a = some p ∨ w.heap.size ≤ p.block) → wpList Try.prog ops Q rest (act.put o.dst (.slice a' (n + 1) c')) w') :
    wpList Try.prog ops Q (o :: rest) act (w.alloc (.cells #[.int .i64 y] 3)) :=
  wpList_app1x hgd s x 22 ho B 3 _ 8 Try.underlying22 infoInt rfl a n c _ hs hown.2 _ rfl hx hn (by omega) hB
    fun a' c' w' h1 h2 _ h4 => h a' c' w' ⟨by rw [List.length_append, hown.1]; rfl, by simpa using h1⟩ h2 h4

/-- 'append(rows, row)' as a step of a region, the slice nil or not. -/
theorem step_append_row {ops : Array Oper} {o : Oper} {act : Act} {w : World} {K : Act → World → Prop} {Q : Exit → Act → World → Prop} {E : Prop} (hgd : o.guard = none) (s x : Operand)
    (ho : o.op = .call { callee := .builtin .append, args := #[s, x], argTypes := #[23, 23] })
    (lo hi : Nat) (a : Option Addr) (n c : Nat) (rs : List (Option Addr × Nat × Nat)) (xss : List (List Int)) (hs : act.eval s = .slice a n c) (hown : OwnIIr w lo hi a n c rs xss)
    (ra : Option Addr) (rn rc mid : Nat) (xs : List Int) (hrow : OwnI w mid ra rn rc xs) (hmid : hi ≤ mid) (hlo : lo ≤ mid)
    (hx : act.eval x = .slice (some ⟨w.heap.size, 0, none⟩) 1 1) (hn : n < 4194303) (hB : lo ≤ w.heap.size) (hhi : hi ≤ w.heap.size)
    (h : ∀ a' c' w', OwnIIr w' lo w'.heap.size a' (n + 1) c' (rs ++ [(ra, rn, rc)]) (xss ++ [xs]) → w.grownBy w' (Value.slice a n c).ownBlock → K (act.put o.dst (.slice a' (n + 1) c')) w') :
    if Region.wanted o (yielded ops act.tmps) = true then Oper.wp Try.prog o act (w.alloc (.cells #[.slice ra rn rc] 22)) K Q else E := by
  have hw : Region.wanted o (yielded ops act.tmps) = true := by simp [Region.wanted, hgd]
  rw [if_pos hw]
  obtain ⟨i0, hi0, hz0, hz1, hz2⟩ := info_parts infoRow
  obtain ⟨h1, h2, h3, h4, h5, h6⟩ := hown
  refine wp_append_own (w.alloc (.cells #[.slice ra rn rc] 22)) s x 23 ho lo 22 i0 (.slice none 0 0) 1 24 Try.underlying23 hi0 hz0 hz1 hz2 rfl (by decide) _ n _ hs (h3.alloc _) ⟨w.heap.size, 0, none⟩ 1 1 [.slice ra rn rc] hx rfl ?_ ?_ (by unfold maxLen; omega) (by omega) (by simp; omega) ?_
  · intro j v hj
    match j, hj with
    | 0, hj => simp at hj; subst hj; simp [Addr.add]
  · intro v hv; simp at hv; subst hv; rfl
  intro v' w' g1 g2' _
  obtain ⟨a', c', rfl⟩ := own_slice g1
  have g2 := grownBy_alloc_trans g2'
  refine h a' c' w' ?_ g2
  have hsz : w.heap.size ≤ w'.heap.size := g2.size
  refine ⟨by rw [List.length_append, h1]; rfl, by rw [List.length_append, h2]; rfl, by rw [List.map_append]; exact g1, fun p hp => ?_, ?_, ?_⟩
  · subst hp; exact (g1.lt p.block rfl).2
  · intro i r ys hr hy
    have old : ∀ (B : Nat) (q : Option Addr × Nat × Nat) (zs : List Int), OwnI w B q.1 q.2.1 q.2.2 zs → lo ≤ B → OwnIn w' lo w'.heap.size q.1 q.2.1 q.2.2 zs := by
      intro B q zs hq hl
      have e := hq.grown g2 (own_types_ne hq.2 h3 (by decide))
      exact (e.mono hl).ins
    rcases Nat.lt_or_ge i n with hin | hin
    · rw [List.getElem?_append_left (by omega)] at hr
      rw [List.getElem?_append_left (by omega)] at hy
      exact old lo r ys (h5 i r ys hr hy).1 (Nat.le_refl _)
    · rw [List.getElem?_append_right (by omega)] at hr
      rw [List.getElem?_append_right (by omega)] at hy
      obtain rfl : i = n := by
        have := (List.getElem?_eq_some_iff.1 hr).1
        simp at this; omega
      simp only [h2, h1, Nat.sub_self, List.getElem?_cons_zero, Option.some.injEq] at hr hy
      subst hr; subst hy
      exact old mid _ _ hrow hlo
  · intro i j r s' p q hij hr hs' hp hq
    have hjn : j < n + 1 := by
      have := (List.getElem?_eq_some_iff.1 hs').1
      simp [h2] at this; omega
    rw [List.getElem?_append_left (by omega)] at hr
    rcases Nat.lt_or_ge j n with hj | hj
    · rw [List.getElem?_append_left (by omega)] at hs'
      exact h6 i j r s' p q hij hr hs' hp hq
    · rw [List.getElem?_append_right (by omega)] at hs'
      obtain rfl : j = n := by omega
      simp only [h2, Nat.sub_self, List.getElem?_cons_zero, Option.some.injEq] at hs'
      subst hs'
      have hxs : xss[i]? = some _ := List.getElem?_eq_getElem (by omega)
      have b1 := (h5 i r _ hr hxs).2 p hp
      have b2 := (hrow.lo q hq).1
      omega
end Go.Proofs.Ytjhlianledgiiaa
