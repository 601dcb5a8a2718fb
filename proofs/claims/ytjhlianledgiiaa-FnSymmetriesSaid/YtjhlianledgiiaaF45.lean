/- The pattern without a place: the walk of the reference's function. Conditions: as the names say. -/
import Derived.Test.YtjhlianledgiiaaF15
import Derived.Test.YtjhlianledgiiaaF20
namespace Go.Proofs.Ytjhlianledgiiaa
open Go.RowKit

/-- 'append(out, ys..)' as a step of a region that draws its order. -/
theorem step_append_any {ops : Array Oper} {o : Oper} {act : Act} {w : World} {K : Act → World → Prop} {Q : Exit → Act → World → Prop} {E : Prop} (hgd : o.guard = none) (s x : Operand)
    (ho : o.op = .call { callee := .builtin .append, args := #[s, x], argTypes := #[22, 22] })
    (B : Nat) (a : Option Addr) (n c : Nat) (xs : List Int) (hs : act.eval s = .slice a n c) (hown : OwnI w B a n c xs)
    (p : Option Addr) (m d : Nat) (ys : List Int) (hx : act.eval x = .slice p m d) (hy : SlI w p m d ys) (hn : n + m < 4194304) (hB : B ≤ w.heap.size)
    (h : ∀ a' c' w', OwnI w' B a' (n + m) c' (xs ++ ys) → Below B w w' → K (act.put o.dst (.slice a' (n + m) c')) w') :
    if Region.wanted o (yielded ops act.tmps) = true then Oper.wp Try.prog o act w K Q else E := by
  have hw : Region.wanted o (yielded ops act.tmps) = true := by simp [Region.wanted, hgd]
  rw [if_pos hw]
  obtain ⟨i0, hi, hz0, hz1, hz2⟩ := info_parts infoInt
  cases p with
  | some p =>
    refine wp_append_own w s x 22 ho B 3 i0 (.int .i64 0) 1 8 Try.underlying22 hi hz0 hz1 hz2 rfl (by decide) _ n _ hs hown.2 p m d (ys.map (.int .i64)) hx (by rw [List.length_map, hy.2.1, Nat.mul_one]) ?_ (ints_oneCell _ _) (by unfold maxLen; omega) (by omega) hB ?_
    · intro j u hu
      obtain ⟨v, hv, rfl⟩ : ∃ v, ys[j]? = some v ∧ u = .int .i64 v := by
        rw [List.getElem?_map] at hu
        cases hj : ys[j]? with
        | none => rw [hj] at hu; cases hu
        | some v => rw [hj] at hu; exact ⟨v, rfl, (Option.some.inj hu).symm⟩
      obtain ⟨b, o', h1, h2⟩ := hy.1 j v hv
      obtain rfl := Option.some.inj h1
      rw [Addr.add_lit]; exact h2
    · intro v' w' h1 h2 _
      obtain ⟨a', c', rfl⟩ := own_slice h1
      exact h a' c' w' ⟨by rw [List.length_append, hown.1, hy.2.1], by rw [List.map_append]; exact h1⟩ (grownBy_below h2 hB fun k hk => (hown.2.lt k hk).1)
  | none =>
    obtain rfl : ys = [] := by
      cases ys with
      | nil => rfl
      | cons y ys => obtain ⟨b, o', h1, _⟩ := hy.1 0 y rfl; cases h1
    obtain rfl : m = 0 := hy.2.1.symm
    obtain rfl : d = 0 := hy.2.2.2.2 rfl
    unfold Oper.wp execOp
    simp only [ho, resolve, invoke, builtin, Sem.run_bind, Sem.run_pure, Result.andThen_ok, List.map_toArray, List.map_cons, List.map_nil, hs, hx, run_append_owned_none (P := Try.prog) w B 22 o.type 3 i0 1 Try.underlying22 hi _ n _ hown.2]
    have h' := h a c w (by simpa using hown) (Below.refl _ _)
    exact h'

/-- Without the place k, counted from 0. -/
def wo (xs : List Int) (k : Nat) : List Int := pat (xs.take k ++ xs.drop (k + 1))

end Go.Proofs.Ytjhlianledgiiaa
