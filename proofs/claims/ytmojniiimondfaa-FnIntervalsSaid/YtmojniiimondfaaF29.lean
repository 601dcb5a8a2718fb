/- The program's search of occurrences, OccurrencesOf and CountPattern: the walks. No condition. -/
import Derived.Test.YtmojniiimondfaaF28
import Derived.Test.YtmojniiimondfaaApp
namespace Go.Proofs.Ytmojniiimondfaa
open Go.RowKit

def OwnIIr (w : World) (lo hi : Nat) (a : Option Addr) (n c : Nat) (rs : List (Option Addr × Nat × Nat)) (xss : List (List Int)) : Prop :=
  xss.length = n ∧ rs.length = n ∧ w.ownsRow lo 28 1 (.slice a n c) n (rs.map sl3) ∧ (∀ p, a = some p → p.block < hi) ∧
    (∀ (i : Nat) (r : Option Addr × Nat × Nat) (xs : List Int), rs[i]? = some r → xss[i]? = some xs → OwnIn w lo hi r.1 r.2.1 r.2.2 xs) ∧
    (∀ (i j : Nat) (r s : Option Addr × Nat × Nat) (p q : Addr), i < j → rs[i]? = some r → rs[j]? = some s → r.1 = some p → s.1 = some q → p.block ≠ q.block)
theorem OwnIIr.below {w w' : World} {lo hi n c : Nat} {a : Option Addr} {rs : List (Option Addr × Nat × Nat)} {xss : List (List Int)} (h : OwnIIr w lo hi a n c rs xss) (hb : Below w.heap.size w w') : OwnIIr w' lo hi a n c rs xss := by
  obtain ⟨h1, h2, h3, h4, h5, h6⟩ := h
  exact ⟨h1, h2, own_below' h3 hb, h4, fun i r xs hr hx => (h5 i r xs hr hx).below hb, h6⟩
theorem OwnIIr.mono {w : World} {lo hi lo' hi' n c : Nat} {a : Option Addr} {rs : List (Option Addr × Nat × Nat)} {xss : List (List Int)} (h : OwnIIr w lo hi a n c rs xss) (h1' : lo' ≤ lo) (h2' : hi ≤ hi') : OwnIIr w lo' hi' a n c rs xss := by
  obtain ⟨h1, h2, h3, h4, h5, h6⟩ := h
  exact ⟨h1, h2, own_mono h3 h1', fun p hp => Nat.lt_of_lt_of_le (h4 p hp) h2', fun i r xs hr hx => (h5 i r xs hr hx).mono h1' h2', h6⟩
theorem OwnIIr.out {w w' : World} {lo hi l r n c : Nat} {a : Option Addr} {rs : List (Option Addr × Nat × Nat)} {xss : List (List Int)} (h : OwnIIr w lo hi a n c rs xss) (ho : Out l r w w') (hd : hi ≤ l ∨ r ≤ lo) : OwnIIr w' lo hi a n c rs xss := by
  obtain ⟨h1, h2, h3, h4, h5, h6⟩ := h
  exact ⟨h1, h2, own_outAt h3 ho (Nat.le_refl _) h4 hd, h4, fun i r xs hr hx => (h5 i r xs hr hx).out ho hd, h6⟩
theorem OwnIIr.grownOut {w w' : World} {lo hi n c : Nat} {a : Option Addr} {rs : List (Option Addr × Nat × Nat)} {xss : List (List Int)} {row : Option Nat} (h : OwnIIr w lo hi a n c rs xss) (hg : w.grownBy w' row) (hr : ∀ k, row = some k → k < lo ∨ hi ≤ k) : OwnIIr w' lo hi a n c rs xss := by
  cases row with
  | none => exact h.out (Out.ofGrown (lo := hi) (hi := hi) hg (fun k hk => by cases hk)) (.inl (Nat.le_refl _))
  | some k =>
    rcases hr k rfl with h1 | h1
    · exact h.out (Out.ofGrown (lo := 0) (hi := lo) hg (fun j hj => by cases hj; omega)) (.inr (Nat.le_refl _))
    · exact h.out (Out.ofGrown (lo := hi) (hi := k + 1) hg (fun j hj => by cases hj; omega)) (.inl (Nat.le_refl _))
theorem OwnIIr.rowAt {w : World} {lo hi n c : Nat} {a : Option Addr} {rs : List (Option Addr × Nat × Nat)} {xss : List (List Int)} (h : OwnIIr w lo hi a n c rs xss) {k : Nat} (hk : k < n) :
    ∃ g ra rn rc xs, a = some ⟨g, 0, none⟩ ∧ w.cell? ⟨g, k, none⟩ = some (.slice ra rn rc) ∧ OwnIn w lo hi ra rn rc xs ∧ Hid (xss[k]? = some xs) ∧ Hid (rs[k]? = some (ra, rn, rc)) := by
  obtain ⟨h1, h2, h3, h4, h5, h6⟩ := h
  obtain ⟨g, cur, rfl, _, _⟩ := own_head h3 (by omega)
  have hr : rs[k]? = some _ := List.getElem?_eq_getElem (by rw [h2]; exact hk)
  have hx : xss[k]? = some _ := List.getElem?_eq_getElem (by rw [h1]; exact hk)
  refine ⟨g, _, _, _, _, rfl, ?_, h5 k _ _ hr hx, hx, hr⟩
  rw [h3.cellAt k (by omega), List.getElem?_map, hr]; rfl

/-- 'append(out, row)', row the call's own and no row of out; what the call owns of integers stays. -/
theorem wpList_appIIr {w : World} {ops : Array Oper} {rest : List Oper} {o : Oper} {act : Act} {Q : Exit → Act → World → Prop} (hgd : o.guard = none) (s x : Operand)
    (ho : o.op = .call { callee := .builtin .append, args := #[s, x], argTypes := #[40, 40] })
    (lo hi mid : Nat) (a : Option Addr) (n c : Nat) (rs : List (Option Addr × Nat × Nat)) (xss : List (List Int)) (hs : act.eval s = .slice a n c) (hown : OwnIIr w lo hi a n c rs xss)
    (ra : Option Addr) (rn rc : Nat) (xs : List Int) (hrow : OwnIn w mid w.heap.size ra rn rc xs) (hdis : ∀ r ∈ rs, ∀ p q, r.1 = some p → ra = some q → p.block ≠ q.block) (hlo : lo ≤ mid)
    (g0 : Nat) (hx : act.eval x = .slice (some ⟨g0, 0, none⟩) 1 1) (hg0 : w.heap.size = g0) (hn : n < 4194304) (hB : lo ≤ w.heap.size) (hhi : hi ≤ w.heap.size)
    (h : ∀ a' c' w', OwnIIr w' lo w'.heap.size a' (n + 1) c' (rs ++ [(ra, rn, rc)]) (xss ++ [xs]) → Below lo w w' → Keep w w' → w.heap.size ≤ w'.heap.size → w.grownBy w' (Value.slice a n c).ownBlock → (∀ p, a' = some p → a = some p ∨ w.heap.size ≤ p.block) → wpList Try.prog ops Q rest (act.put o.dst (.slice a' (n + 1) c')) w') :
    wpList Try.prog ops Q (o :: rest) act (w.alloc (.cells #[.slice ra rn rc] 28)) := by
  subst hg0
  obtain ⟨h1, h2, h3, h4, h5, h6⟩ := hown
  refine wpList_app1x hgd s x 40 ho lo 28 (.slice none 0 0) 24 Try.underlying40 infoRow rfl a n c _ hs h3 _ rfl hx hn (by omega) hB ?_
  intro a' c' w' g1 g2 g3 g4
  have hsz : w.heap.size ≤ w'.heap.size := g3.size
  refine h a' c' w' ?_ g3 (fun B b m d ys hq => hq.grown g2 (own_types_ne hq.2 h3 (by decide))) hsz g2 g4
  refine ⟨by rw [List.length_append, h1]; rfl, by rw [List.length_append, h2]; rfl, by rw [List.map_append]; exact g1, fun p hp => ?_, ?_, ?_⟩
  · subst hp; exact (g1.lt p.block rfl).2
  · intro i r ys hr hy
    have old : ∀ (l m : Nat) (q : Option Addr × Nat × Nat) (zs : List Int), OwnIn w l m q.1 q.2.1 q.2.2 zs → lo ≤ l → m ≤ w.heap.size → OwnIn w' lo w'.heap.size q.1 q.2.1 q.2.2 zs := by
      intro l m q zs hq hl hm
      have e := hq.1.grown g2 (own_types_ne hq.1.2 h3 (by decide))
      exact ⟨e.mono hl, fun p hp => by have := hq.2 p hp; omega⟩
    rcases Nat.lt_or_ge i n with hin | hin
    · rw [List.getElem?_append_left (by omega)] at hr
      rw [List.getElem?_append_left (by omega)] at hy
      exact old lo hi r ys (h5 i r ys hr hy) (Nat.le_refl _) hhi
    · rw [List.getElem?_append_right (by omega)] at hr
      rw [List.getElem?_append_right (by omega)] at hy
      obtain rfl : i = n := by
        have := (List.getElem?_eq_some_iff.1 hr).1
        simp at this; omega
      simp only [h2, h1, Nat.sub_self, List.getElem?_cons_zero, Option.some.injEq] at hr hy
      subst hr; subst hy
      exact old mid _ _ _ hrow (by omega) (Nat.le_refl _)
  · intro i j r s' p q hij hr hs' hp hq
    have hjn : j < n + 1 := by
      have := (List.getElem?_eq_some_iff.1 hs').1
      simp [h2] at this; omega
    rw [List.getElem?_append_left (by omega)] at hr
    rcases Nat.lt_or_ge j n with hj | hj
    · rw [List.getElem?_append_left (by omega)] at hs'
      exact h6 i j r s' p q hij hr hs' hp hq
    · rw [List.getElem?_append_right (by omega)] at hs'
      obtain rfl : j = n := by omega
      simp only [h2, Nat.sub_self, List.getElem?_cons_zero, Option.some.injEq] at hs'
      subst hs'
      exact hdis r (List.mem_of_getElem? hr) p q hp hq

theorem OwnII.lit1' (w : World) : OwnII ((w.alloc (.cells #[] 3)).alloc (.cells #[.slice (some ⟨w.heap.size, 0, none⟩) 0 0] 28)) w.heap.size ((w.alloc (.cells #[] 3)).alloc (.cells #[.slice (some ⟨w.heap.size, 0, none⟩) 0 0] 28)).heap.size (some ⟨w.heap.size + 1, 0, none⟩) 1 1 [[]] := by
  refine ⟨[(some ⟨w.heap.size, 0, none⟩, 0, 0)], rfl, rfl, ?_, ?_, ?_, ?_⟩
  · have h := World.ownsRow_lit (e := 28) (size := 1) (w.alloc (.cells #[] 3)) #[.slice (some ⟨w.heap.size, 0, none⟩) 0 0] 1 (Nat.le_refl _) (by unfold maxLen; omega) rfl
    have h2 := own_mono (B' := w.heap.size) h (by simp)
    simpa [sl3] using h2
  · intro p hp
    obtain rfl := Option.some.inj hp
    simp
  · intro i r xs hr hx
    cases i with
    | zero =>
      simp at hr hx
      subst hr; subst hx
      have h := (OwnI.lit0 w).below (below_alloc _ (.cells #[.slice (some ⟨w.heap.size, 0, none⟩) 0 0] 28))
      exact ⟨h, fun p hp => by obtain rfl := Option.some.inj hp; simp; omega⟩
    | succ i => simp at hr
  · intro i j r s p q hij hr hs
    have h1 := (List.getElem?_eq_some_iff.1 hs).1
    simp at h1
    omega

end Go.Proofs.Ytmojniiimondfaa
