/- Appends that tell where the new slice lies: in the old one's block, or in a new one. No condition. -/
import Derived.Test.YtmojniiimondfaaF20
import Derived.OwnWalk
import Derived.ArgAppend
namespace Go.Proofs.Ytmojniiimondfaa
open Go.RowKit

/-- 'append(out, x)', one element of one cell: as 'wpList_app1', and where it lies. -/
theorem wpList_app1x {P : Program} {w : World} {ops : Array Oper} {rest : List Oper} {o : Oper} {act : Act} {Q : Exit → Act → World → Prop} (hgd : o.guard = none) (s x : Operand) (t : TypeId)
    (ho : o.op = .call { callee := .builtin .append, args := #[s, x], argTypes := #[t, t] })
    (B : Nat) (e : TypeId) (z : Value) (bytes : Nat) (ht : P.underlying t = some (.slice e)) (hinfo : (P.info? e).map (fun i => (i.zero, i.size, i.bytes)) = some (some z, 1, bytes)) (hz : z.cells.size = 1)
    (a : Option Addr) (n c : Nat) (xs : List Value) (hs : act.eval s = .slice a n c) (hown : w.ownsRow B e 1 (.slice a n c) n xs)
    (u : Value) (hu : u.oneCell' = true) (hx : act.eval x = .slice (some ⟨w.heap.size, 0, none⟩) 1 1)
    (hn : n < 4194304) (hb : bytes ≤ 64) (hB : B ≤ w.heap.size)
    (h : ∀ a' c' w', w'.ownsRow B e 1 (.slice a' (n + 1) c') (n + 1) (xs ++ [u]) → w.grownBy w' (Value.slice a n c).ownBlock → Below B w w' → (∀ p, a' = some p → a = some p ∨ w.heap.size ≤ p.block) → wpList P ops Q rest (act.put o.dst (.slice a' (n + 1) c')) w') :
    wpList P ops Q (o :: rest) act (w.alloc (.cells #[u] e)) := by
  obtain ⟨i0, hi, hz0, hz1, hz2⟩ := info_parts hinfo
  have hxs : xs.length = n * 1 := hown.1
  have hnew : ∀ (j : Nat) v, [u][j]? = some v → (w.alloc (.cells #[u] e)).cell? ((⟨w.heap.size, 0, none⟩ : Addr).add j) = some v := by
    intro j v hj
    match j, hj with
    | 0, hj => simp at hj; subst hj; simp [Addr.add]
  have hone : ∀ v ∈ [u], v.oneCell' = true := by intro v hv; simp at hv; subst hv; exact hu
  by_cases hcap : ∃ g, a = some ⟨g, 0, none⟩ ∧ n + 1 ≤ c
  · obtain ⟨g, rfl, hcap⟩ := hcap
    refine wpList_append_fits (w.alloc (.cells #[u] e)) hgd s x t ho B e i0 1 ht hi hz1 g n c xs hs (hown.alloc _) ⟨w.heap.size, 0, none⟩ 1 1 [u] hx rfl hnew hone hcap ?_
    intro w' h1 h2
    have h3 := grownBy_alloc_trans h2
    exact h _ _ w' h1 h3 (grownBy_below h3 hB fun k hk => (hown.lt k hk).1) (fun p hp => .inl hp)
  · have hold : ∀ b, a = some b → ∀ (j : Nat) v, xs[j]? = some v → (w.alloc (.cells #[u] e)).cell? (b.add j) = some v := by
      intro b hb' j v hj
      have hjn : j < n * 1 := by rw [← hxs]; exact (List.getElem?_eq_some_iff.1 hj).1
      rcases hown.2 with ⟨h2, _⟩ | ⟨g, cap, cur, h2, _⟩
      · simp only [Value.slice.injEq] at h2; rw [h2.1] at hb'; cases hb'
      · simp only [Value.slice.injEq] at h2
        rw [h2.1] at hb'
        cases hb'
        have hq := hown
        rw [h2.1] at hq
        have h4 := (hq.alloc (.cells #[u] e)).cellAt j hjn
        rw [hj] at h4
        rw [Addr.add_lit, Nat.zero_add]; exact h4
    have hfull : c < n + 1 := by
      rcases hown.2 with ⟨h2, h3⟩ | ⟨g, cap, cur, h2, _⟩
      · simp only [Value.slice.injEq] at h2; omega
      · simp only [Value.slice.injEq] at h2
        rcases Nat.lt_or_ge c (n + 1) with h4 | h4
        · exact h4
        · exact absurd ⟨g, h2.1, h4⟩ hcap
    have hnone : a = none → n = 0 ∧ c = 0 := by
      intro ha
      rcases hown.2 with ⟨h2, h3⟩ | ⟨g, cap, cur, h2, _⟩
      · simp only [Value.slice.injEq] at h2; exact ⟨h3, h2.2.2⟩
      · simp only [Value.slice.injEq] at h2; rw [h2.1] at ha; cases ha
    refine wpList_append_grows (w.alloc (.cells #[u] e)) hgd s x t ho e i0 z 1 bytes ht hi hz0 hz1 hz2 hz (by decide) a n c xs hs hnone hxs hold ⟨w.heap.size, 0, none⟩ 1 1 [u] hx rfl hnew hone hfull (by unfold maxLen; omega) ?_ ?_
    · have : (n + 1) * bytes ≤ 4194304 * 64 := Nat.mul_le_mul (by omega) hb
      omega
    · intro v' w' h1 h2
      obtain ⟨a', c', rfl⟩ := own_slice h1
      have h3 := grownBy_alloc_trans h2
      have h4 : w.grownBy w' (Value.slice a n c).ownBlock := ⟨h3.os, h3.tape, h3.output, h3.size, fun k hk _ => h3.block k hk (by simp)⟩
      refine h a' c' w' (own_mono h1 (by simp; omega)) h4 (grownBy_below h3 hB fun k hk => by cases hk) (fun p hp => .inr ?_)
      subst hp
      have := (h1.lt p.block rfl).1
      simp at this
      omega

/-- 'append(out, row)', row the call's own and no row of out; what the call owns of integers stays. -/
theorem wpList_appIIx {w : World} {ops : Array Oper} {rest : List Oper} {o : Oper} {act : Act} {Q : Exit → Act → World → Prop} (hgd : o.guard = none) (s x : Operand)
    (ho : o.op = .call { callee := .builtin .append, args := #[s, x], argTypes := #[40, 40] })
    (lo hi mid : Nat) (a : Option Addr) (n c : Nat) (xss : List (List Int)) (hs : act.eval s = .slice a n c) (hown : OwnII w lo hi a n c xss)
    (ra : Option Addr) (rn rc : Nat) (xs : List Int) (hrow : OwnIn w mid w.heap.size ra rn rc xs) (hmid : hi ≤ mid ∨ n = 0) (hlo : lo ≤ mid)
    (g0 : Nat) (hx : act.eval x = .slice (some ⟨g0, 0, none⟩) 1 1) (hg0 : w.heap.size = g0) (hn : n < 4194304) (hB : lo ≤ w.heap.size) (hhi : hi ≤ w.heap.size)
    (h : ∀ a' c' w', OwnII w' lo w'.heap.size a' (n + 1) c' (xss ++ [xs]) → Below lo w w' → Keep w w' → w.heap.size ≤ w'.heap.size → w.grownBy w' (Value.slice a n c).ownBlock → (∀ p, a' = some p → a = some p ∨ w.heap.size ≤ p.block) → wpList Try.prog ops Q rest (act.put o.dst (.slice a' (n + 1) c')) w') :
    wpList Try.prog ops Q (o :: rest) act (w.alloc (.cells #[.slice ra rn rc] 28)) := by
  subst hg0
  obtain ⟨rs, h1, h2, h3, h4, h5, h6⟩ := hown
  refine wpList_app1x hgd s x 40 ho lo 28 (.slice none 0 0) 24 Try.underlying40 infoRow rfl a n c _ hs h3 _ rfl hx hn (by omega) hB ?_
  intro a' c' w' g1 g2 g3 g4
  have hsz : w.heap.size ≤ w'.heap.size := g3.size
  refine h a' c' w' ?_ g3 (fun B b m d ys hq => hq.grown g2 (own_types_ne hq.2 h3 (by decide))) hsz g2 g4
  refine ⟨rs ++ [(ra, rn, rc)], by rw [List.length_append, h1]; rfl, by rw [List.length_append, h2]; rfl, by rw [List.map_append]; exact g1, fun p hp => ?_, ?_, ?_⟩
  · subst hp; exact (g1.lt p.block rfl).2
  · intro i r ys hr hy
    have old : ∀ (l m : Nat) (q : Option Addr × Nat × Nat) (zs : List Int), OwnIn w l m q.1 q.2.1 q.2.2 zs → lo ≤ l → m ≤ w.heap.size → OwnIn w' lo w'.heap.size q.1 q.2.1 q.2.2 zs := by
      intro l m q zs hq hl hm
      have e := hq.1.grown g2 (own_types_ne hq.1.2 h3 (by decide))
      exact ⟨e.mono hl, fun p hp => by have := hq.2 p hp; omega⟩
    rcases Nat.lt_or_ge i n with hin | hin
    · rw [List.getElem?_append_left (by omega)] at hr
      rw [List.getElem?_append_left (by omega)] at hy
      exact old lo hi r ys (h5 i r ys hr hy) (Nat.le_refl _) hhi
    · rw [List.getElem?_append_right (by omega)] at hr
      rw [List.getElem?_append_right (by omega)] at hy
      obtain rfl : i = n := by
        have := (List.getElem?_eq_some_iff.1 hr).1
        simp at this; omega
      simp only [h2, h1, Nat.sub_self, List.getElem?_cons_zero, Option.some.injEq] at hr hy
      subst hr; subst hy
      exact old mid _ _ _ hrow (by omega) (Nat.le_refl _)
  · intro i j r s' p q hij hr hs' hp hq
    have hjn : j < n + 1 := by
      have := (List.getElem?_eq_some_iff.1 hs').1
      simp [h2] at this; omega
    rw [List.getElem?_append_left (by omega)] at hr
    rcases Nat.lt_or_ge j n with hj | hj
    · rw [List.getElem?_append_left (by omega)] at hs'
      exact h6 i j r s' p q hij hr hs' hp hq
    · rw [List.getElem?_append_right (by omega)] at hs'
      obtain rfl : j = n := by omega
      simp only [h2, Nat.sub_self, List.getElem?_cons_zero, Option.some.injEq] at hs'
      subst hs'
      have hxs : xss[i]? = some _ := List.getElem?_eq_getElem (by omega)
      have b1 := (h5 i r _ hr hxs).2 p hp
      have b2 := (hrow.1.lo q hq).1
      omega

theorem OwnII.grownOut {w w' : World} {lo hi n c : Nat} {a : Option Addr} {xss : List (List Int)} {row : Option Nat} (h : OwnII w lo hi a n c xss) (hg : w.grownBy w' row) (hr : ∀ k, row = some k → k < lo ∨ hi ≤ k) : OwnII w' lo hi a n c xss := by
  cases row with
  | none => exact h.out (Out.ofGrown (lo := hi) (hi := hi) hg (fun k hk => by cases hk)) (.inl (Nat.le_refl _))
  | some k =>
    rcases hr k rfl with h1 | h1
    · exact h.out (Out.ofGrown (lo := 0) (hi := lo) hg (fun j hj => by cases hj; omega)) (.inr (Nat.le_refl _))
    · exact h.out (Out.ofGrown (lo := hi) (hi := k + 1) hg (fun j hj => by cases hj; omega)) (.inl (Nat.le_refl _))
theorem ownBlock_some {a : Option Addr} {n c k : Nat} (h : (Value.slice a n c).ownBlock = some k) : ∃ p, a = some p ∧ p.block = k := by
  cases a with
  | none => simp [Value.ownBlock] at h
  | some p => exact ⟨p, rfl, by simpa [Value.ownBlock] using h⟩
end Go.Proofs.Ytmojniiimondfaa
