/- Slices of slices of integers: how they read, what a call owns of them, one more row appended. No condition. -/
import Derived.Test.YtmojniiimondfaaF01
namespace Go.Proofs.Ytmojniiimondfaa
open Go.RowKit

theorem infoRow : (Try.prog.info? 28).map (fun i => (i.zero, i.size, i.bytes)) = some (some (.slice none 0 0), 1, 24) := by kernel_rfl

def sl3 (r : Option Addr × Nat × Nat) : Value := .slice r.1 r.2.1 r.2.2

/-- The slice at a reads as xss. -/
def IIs (w : World) (a : Option Addr) (n c : Nat) (xss : List (List Int)) : Prop :=
  (∀ i xs, xss[i]? = some xs → ∃ b o r, a = some ⟨b, o, none⟩ ∧ w.cell? ⟨b, o + i, none⟩ = some (sl3 r) ∧ SlI w r.1 r.2.1 r.2.2 xs) ∧ xss.length = n ∧ n ≤ 2097152 ∧ n ≤ c
theorem IIs.at {w : World} {a : Option Addr} {n c : Nat} {xss : List (List Int)} (h : IIs w a n c xss) {i : Nat} (hi : i < n) :
    ∃ b o ra rn rc xs, a = some ⟨b, o, none⟩ ∧ w.cell? ⟨b, o + i, none⟩ = some (.slice ra rn rc) ∧ SlI w ra rn rc xs ∧ Hid (xss[i]? = some xs) := by
  have hx : xss[i]? = some _ := List.getElem?_eq_getElem (by rw [h.2.1]; exact hi)
  obtain ⟨b, o, r, h1, h2, h3⟩ := h.1 i _ hx
  exact ⟨b, o, r.1, r.2.1, r.2.2, _, h1, h2, h3, hx⟩
theorem IIs.below {w w' : World} {a : Option Addr} {n c : Nat} {xss : List (List Int)} (h : IIs w a n c xss) (hb : Below w.heap.size w w') : IIs w' a n c xss := by
  refine ⟨fun i xs hx => ?_, h.2⟩
  obtain ⟨b, o, r, h1, h2, h3⟩ := h.1 i xs hx
  exact ⟨b, o, r, h1, (hb.cell (p := ⟨b, o + i, none⟩) (World.block_lt_of_cell? w _ h2)).trans h2, h3.below hb⟩
theorem SlI.quiet {w w' : World} {a : Option Addr} {n c : Nat} {xs : List Int} (h : SlI w a n c xs) (hq : Quiet w w') : SlI w' a n c xs := ⟨h.1.quiet hq, h.2⟩
theorem IIs.quiet {w w' : World} {a : Option Addr} {n c : Nat} {xss : List (List Int)} (h : IIs w a n c xss) (hq : Quiet w w') : IIs w' a n c xss := h.below (hq.below _)

/-- The call owns the slice (a, n, c) of slices and its rows, no two of them in one block; all blocks have numbers from lo to hi - 1. -/
def OwnII (w : World) (lo hi : Nat) (a : Option Addr) (n c : Nat) (xss : List (List Int)) : Prop :=
  ∃ rs : List (Option Addr × Nat × Nat), xss.length = n ∧ rs.length = n ∧ w.ownsRow lo 28 1 (.slice a n c) n (rs.map sl3) ∧ (∀ p, a = some p → p.block < hi) ∧
    (∀ (i : Nat) (r : Option Addr × Nat × Nat) (xs : List Int), rs[i]? = some r → xss[i]? = some xs → OwnIn w lo hi r.1 r.2.1 r.2.2 xs) ∧
    (∀ (i j : Nat) (r s : Option Addr × Nat × Nat) (p q : Addr), i < j → rs[i]? = some r → rs[j]? = some s → r.1 = some p → s.1 = some q → p.block ≠ q.block)

theorem OwnII.nil (w : World) (lo hi : Nat) : OwnII w lo hi none 0 0 [] := ⟨[], rfl, rfl, World.ownsRow_nil _ _ _ _, by simp, by simp, by simp⟩
theorem OwnII.lit0 (w : World) : OwnII (w.alloc (.cells #[] 28)) w.heap.size (w.heap.size + 1) (some ⟨w.heap.size, 0, none⟩) 0 0 [] :=
  ⟨[], rfl, rfl, World.ownsRow_lit w #[] 0 (Nat.le_refl _) (Nat.zero_le _) rfl, by intro p hp; obtain rfl := Option.some.inj hp; exact Nat.lt_succ_self _, by simp, by simp⟩
theorem OwnII.len {w : World} {lo hi n c : Nat} {a : Option Addr} {xss : List (List Int)} (h : OwnII w lo hi a n c xss) : xss.length = n := by
  obtain ⟨_, h1, _⟩ := h; exact h1
theorem OwnII.capOf {w : World} {lo hi n c : Nat} {a : Option Addr} {xss : List (List Int)} (h : OwnII w lo hi a n c xss) : n ≤ c := by
  obtain ⟨rs, _, _, h, _⟩ := h
  rcases h.2 with ⟨h2, h3⟩ | ⟨g, cap, cur, h2, _, _, h3, _⟩
  · simp only [Value.slice.injEq] at h2; omega
  · simp only [Value.slice.injEq] at h2; omega
theorem OwnII.below {w w' : World} {lo hi n c : Nat} {a : Option Addr} {xss : List (List Int)} (h : OwnII w lo hi a n c xss) (hb : Below w.heap.size w w') : OwnII w' lo hi a n c xss := by
  obtain ⟨rs, h1, h2, h3, h4, h5, h6⟩ := h
  exact ⟨rs, h1, h2, own_below' h3 hb, h4, fun i r xs hr hx => (h5 i r xs hr hx).below hb, h6⟩
theorem OwnII.quiet {w w' : World} {lo hi n c : Nat} {a : Option Addr} {xss : List (List Int)} (h : OwnII w lo hi a n c xss) (hq : Quiet w w') : OwnII w' lo hi a n c xss := h.below (hq.below _)
theorem OwnII.mono {w : World} {lo hi lo' hi' n c : Nat} {a : Option Addr} {xss : List (List Int)} (h : OwnII w lo hi a n c xss) (h1' : lo' ≤ lo) (h2' : hi ≤ hi') : OwnII w lo' hi' a n c xss := by
  obtain ⟨rs, h1, h2, h3, h4, h5, h6⟩ := h
  exact ⟨rs, h1, h2, own_mono h3 h1', fun p hp => Nat.lt_of_lt_of_le (h4 p hp) h2', fun i r xs hr hx => (h5 i r xs hr hx).mono h1' h2', h6⟩
theorem own_outAt {w w' : World} {B E s n c l r lo hi : Nat} {a : Option Addr} {xs : List Value} (h : w.ownsRow B E s (.slice a n c) n xs) (ho : Out l r w w') (hlo : lo ≤ B) (hhi : ∀ p, a = some p → p.block < hi) (hd : hi ≤ l ∨ r ≤ lo) : w'.ownsRow B E s (.slice a n c) n xs := by
  refine ⟨h.1, ?_⟩
  rcases h.2 with h2 | ⟨g, cap, cur, h2, hg, hh, rest⟩
  · exact .inl h2
  · have h3 := hhi ⟨g, 0, none⟩ (by simp only [Value.slice.injEq] at h2; exact h2.1)
    simp only at h3
    have hlt : g < w.heap.size := (Array.getElem?_eq_some_iff.1 hh).1
    exact .inr ⟨g, cap, cur, h2, hg, (ho.block g hlt (by omega)).trans hh, rest⟩
theorem OwnII.out {w w' : World} {lo hi l r n c : Nat} {a : Option Addr} {xss : List (List Int)} (h : OwnII w lo hi a n c xss) (ho : Out l r w w') (hd : hi ≤ l ∨ r ≤ lo) : OwnII w' lo hi a n c xss := by
  obtain ⟨rs, h1, h2, h3, h4, h5, h6⟩ := h
  exact ⟨rs, h1, h2, own_outAt h3 ho (Nat.le_refl _) h4 hd, h4, fun i r xs hr hx => (h5 i r xs hr hx).out ho hd, h6⟩
theorem own_head {w : World} {B E n c : Nat} {a : Option Addr} {xs : List Value} (h : w.ownsRow B E 1 (.slice a n c) n xs) (hn : 0 < n) : ∃ g cur, a = some ⟨g, 0, none⟩ ∧ B ≤ g ∧ w.heap[g]? = some (.cells cur E (0, 0)) := by
  rcases h.2 with ⟨_, h2⟩ | ⟨g, cap, cur, h2, hg, hh, _⟩
  · omega
  · simp only [Value.slice.injEq] at h2
    exact ⟨g, cur, h2.1, hg, hh⟩
/-- What is owned reads so. -/
theorem OwnII.iis {w : World} {lo hi n c : Nat} {a : Option Addr} {xss : List (List Int)} (h : OwnII w lo hi a n c xss) (hn : n ≤ 2097152) (hl : ∀ xs ∈ xss, xs.length ≤ 2097152) : IIs w a n c xss := by
  have hc := h.capOf
  obtain ⟨rs, h1, h2, h3, h4, h5, h6⟩ := h
  refine ⟨fun i xs hx => ?_, h1, hn, hc⟩
  have hi : i < n := by rw [← h1]; exact (List.getElem?_eq_some_iff.1 hx).1
  obtain ⟨g, cur, rfl, _, _⟩ := own_head h3 (by omega)
  have hr : rs[i]? = some _ := List.getElem?_eq_getElem (by rw [h2]; exact hi)
  have h7 := h5 i _ xs hr hx
  refine ⟨g, 0, _, rfl, ?_, h7.sl (by rw [← h7.1.1]; exact hl xs (List.mem_of_getElem? hx))⟩
  rw [Nat.zero_add, h3.cellAt i (by omega), List.getElem?_map, hr]; rfl

theorem own_types_ne {w : World} {B B' E E' n n' c c' : Nat} {a a' : Option Addr} {xs xs' : List Value} (h : w.ownsRow B E 1 (.slice a n c) n xs) (h' : w.ownsRow B' E' 1 (.slice a' n' c') n' xs') (hE : E ≠ E') :
    (Value.slice a n c).ownBlock = none ∨ (Value.slice a n c).ownBlock ≠ (Value.slice a' n' c').ownBlock := by
  rcases h.2 with ⟨h2, _⟩ | ⟨g, cap, cur, h2, _, hh, _⟩
  · simp only [Value.slice.injEq] at h2
    rw [h2.1]; exact .inl rfl
  · rcases h'.2 with ⟨h3, _⟩ | ⟨g', cap', cur', h3, _, hh', _⟩
    · simp only [Value.slice.injEq] at h2 h3
      rw [h2.1, h3.1]; exact .inr (by simp [Value.ownBlock])
    · simp only [Value.slice.injEq] at h2 h3
      rw [h2.1, h3.1]
      refine .inr ?_
      simp only [Value.ownBlock, ne_eq, Option.some.injEq]
      intro e
      subst e
      rw [hh] at hh'
      simp only [Option.some.injEq, Obj.cells.injEq] at hh'
      exact hE hh'.2.1

/-- 'append(out, row)', row the call's own and younger than what out holds. -/
theorem wpList_appII {w : World} {ops : Array Oper} {rest : List Oper} {o : Oper} {act : Act} {Q : Exit → Act → World → Prop} (hgd : o.guard = none) (s x : Operand)
    (ho : o.op = .call { callee := .builtin .append, args := #[s, x], argTypes := #[40, 40] })
    (lo hi mid : Nat) (a : Option Addr) (n c : Nat) (xss : List (List Int)) (hs : act.eval s = .slice a n c) (hown : OwnII w lo hi a n c xss)
    (ra : Option Addr) (rn rc : Nat) (xs : List Int) (hrow : OwnIn w mid w.heap.size ra rn rc xs) (hmid : hi ≤ mid) (hlo : lo ≤ hi)
    (g0 : Nat) (hx : act.eval x = .slice (some ⟨g0, 0, none⟩) 1 1) (hg0 : w.heap.size = g0) (hn : n < 4194304) (hB : lo ≤ w.heap.size) (hhi : hi ≤ w.heap.size)
    (h : ∀ a' c' w', OwnII w' lo w'.heap.size a' (n + 1) c' (xss ++ [xs]) → Below lo w w' → w.grownBy w' (Value.slice a n c).ownBlock → wpList Try.prog ops Q rest (act.put o.dst (.slice a' (n + 1) c')) w') :
    wpList Try.prog ops Q (o :: rest) act (w.alloc (.cells #[.slice ra rn rc] 28)) := by
  subst hg0
  obtain ⟨rs, h1, h2, h3, h4, h5, h6⟩ := hown
  refine wpList_app1 hgd s x 40 ho lo 28 (.slice none 0 0) 24 Try.underlying40 infoRow rfl a n c _ hs h3 _ rfl hx hn (by omega) hB ?_
  intro a' c' w' g1 g2 g3
  refine h a' c' w' ?_ g3 g2
  have hsz : w.heap.size ≤ w'.heap.size := g3.size
  refine ⟨rs ++ [(ra, rn, rc)], by rw [List.length_append, h1]; rfl, by rw [List.length_append, h2]; rfl, by rw [List.map_append]; exact g1, fun p hp => ?_, ?_, ?_⟩
  · subst hp; exact (g1.lt p.block rfl).2
  · intro i r ys hr hy
    have old : ∀ (l m : Nat) (q : Option Addr × Nat × Nat) (zs : List Int), OwnIn w l m q.1 q.2.1 q.2.2 zs → lo ≤ l → m ≤ w.heap.size → OwnIn w' lo w'.heap.size q.1 q.2.1 q.2.2 zs := by
      intro l m q zs hq hl hm
      have e := hq.1.grown g2 (own_types_ne hq.1.2 h3 (by decide))
      exact ⟨e.mono hl, fun p hp => by have := hq.2 p hp; omega⟩
    rcases Nat.lt_or_ge i n with hin | hin
    · rw [List.getElem?_append_left (by omega)] at hr
      rw [List.getElem?_append_left (by omega)] at hy
      exact old lo hi r ys (h5 i r ys hr hy) (Nat.le_refl _) hhi
    · rw [List.getElem?_append_right (by omega)] at hr
      rw [List.getElem?_append_right (by omega)] at hy
      obtain rfl : i = n := by
        have := (List.getElem?_eq_some_iff.1 hr).1
        simp at this; omega
      simp only [h2, h1, Nat.sub_self, List.getElem?_cons_zero, Option.some.injEq] at hr hy
      subst hr; subst hy
      exact old mid _ _ _ hrow (by omega) (Nat.le_refl _)
  · intro i j r s' p q hij hr hs' hp hq
    have hjn : j < n + 1 := by
      have := (List.getElem?_eq_some_iff.1 hs').1
      simp [h2] at this; omega
    rw [List.getElem?_append_left (by omega)] at hr
    rcases Nat.lt_or_ge j n with hj | hj
    · rw [List.getElem?_append_left (by omega)] at hs'
      exact h6 i j r s' p q hij hr hs' hp hq
    · rw [List.getElem?_append_right (by omega)] at hs'
      obtain rfl : j = n := by omega
      simp only [h2, Nat.sub_self, List.getElem?_cons_zero, Option.some.injEq] at hs'
      subst hs'
      have hxs : xss[i]? = some _ := List.getElem?_eq_getElem (by omega)
      have b1 := (h5 i r _ hr hxs).2 p hp
      have b2 := (hrow.1.lo q hq).1
      omega

/-- What a slice of int slices, given back, is. -/
def RetII (w : World) (xss : List (List Int)) (e : Ending) (w' : World) : Prop :=
  ∃ a n c, e = .returned (.slice a n c) ∧ OwnII w' w.heap.size w'.heap.size a n c xss ∧ Below w.heap.size w w'
theorem RetII.nil (w : World) : RetII w [] (.returned (.slice none 0 0)) w := ⟨_, _, _, rfl, OwnII.nil _ _ _, Below.refl _ _⟩
theorem RetII.after {w w1 w' : World} {xss : List (List Int)} {e : Ending} (h : RetII w1 xss e w') (hb : Below w.heap.size w w1) : RetII w xss e w' := by
  obtain ⟨a, n, c, he, ho, hb'⟩ := h
  exact ⟨a, n, c, he, ho.mono hb.size (Nat.le_refl _), hb.trans (hb'.mono hb.size)⟩
end Go.Proofs.Ytmojniiimondfaa
