/- LowersOf and SymmetryClass, of the program and of the reference. No condition. -/
import Derived.Test.YtjhlianledgiiaaF64
import Derived.Test.YtjhlianledgiiaaF66
import Derived.Test.YtjhlianledgiiaaF61
import Derived.Test.YtjhlianledgiiaaF17
namespace Go.Proofs.Ytjhlianledgiiaa
open Go.RowKit

theorem length_putL (l : List (List Int)) (p : List Int) : (putL l p).length ≤ l.length + 1 := by
  unfold putL; split
  · omega
  · rw [List.length_append, List.length_cons, List.length_take, List.length_drop]
    have := putAt_le l p l.length; omega
theorem length_ordL (l : List (List Int)) : (ordL l).length ≤ l.length := by
  have : ∀ (l a : List (List Int)), (l.foldl putL a).length ≤ a.length + l.length := by
    intro l
    induction l with
    | nil => intro a; simp
    | cons p l ih => intro a; have h1 := ih (putL a p); have h2 := length_putL a p; simp only [List.foldl_cons, List.length_cons]; omega
  have := this l []; simpa [ordL] using this
theorem mem_ordL {l : List (List Int)} {x : List Int} (h : x ∈ ordL l) : x ∈ l := ((ordL_spec l).2 x).1 h
theorem ordL_take {l : List (List Int)} {k : Nat} {x : List Int} (h : l[k]? = some x) : ordL (l.take (k + 1)) = putL (ordL (l.take k)) x := by
  rw [take_snoc h, ordL_snoc]

/-! ### LowersOf -/
def lowL (xs : List Int) : List (List Int) := (List.range xs.length).map (wo xs)
def lowP (xs : List Int) : List (List Int) := if Perm8 xs then ordL (lowL xs) else []
theorem length_wo (xs : List Int) (k : Nat) : (wo xs k).length ≤ xs.length := by
  unfold wo; rw [length_pat, List.length_append, List.length_take, List.length_drop]; omega
theorem lowL_at {xs : List Int} {k : Nat} (h : k < xs.length) : (lowL xs)[k]? = some (wo xs k) := by simp [lowL, h]
theorem length_lowL (xs : List Int) : (lowL xs).length = xs.length := by simp [lowL]
theorem rows_lowL {xs : List Int} (h : xs.length ≤ 8) : ∀ r ∈ lowL xs, r.length ≤ 8 := by
  intro r hr
  obtain ⟨k, _, rfl⟩ := List.mem_map.1 hr
  have := length_wo xs k; omega
theorem bound_lowP (xs : List Int) : totL (lowP xs) ≤ 2097152 ∧ (lowP xs).length ≤ 2097152 := by
  unfold lowP; split
  · rename_i h
    refine bound_rows (k := 8) (m := 8) ?_ (fun r hr => rows_lowL h.1 r (mem_ordL hr)) (by omega) (by omega)
    have := length_ordL (lowL xs); rw [length_lowL] at this; have := h.1; omega
  · simp [totL]

/-- A list of lists of the call's own that is put into: not nil. -/
def OwnP (w : World) (lo : Nat) (v : Value) (n : Nat) (xss : List (List Int)) : Prop := ∃ g c, v = .slice (some ⟨g, 0, none⟩) n c ∧ OwnII w lo w.heap.size (some ⟨g, 0, none⟩) n c xss ∧ lo ≤ g
theorem OwnP.start (w : World) : OwnP (w.alloc (.cells #[] 22)) w.heap.size (.slice (some ⟨w.heap.size, 0, none⟩) 0 0) 0 [] := ⟨_, _, rfl, OwnII.start w, Nat.le_refl _⟩
theorem l3Put_own (g n c lo : Nat) (xss : List (List Int)) (b : Option Addr) (m d : Nat) (p : List Int) (w : World) (ho : OwnII w lo w.heap.size (some ⟨g, 0, none⟩) n c xss) (hn : n ≤ 2097152) (hl : Hid (∀ xs ∈ xss, xs.length ≤ 2097152)) (hp : SlI w b m d p) (hlow : lo ≤ w.heap.size) :
    Calls Try.prog 77 #[.slice (some ⟨g, 0, none⟩) n c, .slice b m d] w fun e w' =>
      ∃ g' n' c', e = .returned (.slice (some ⟨g', 0, none⟩) n' c') ∧ OwnII w' lo w'.heap.size (some ⟨g', 0, none⟩) n' c' (putL xss p) ∧ w.grownBy w' (some g) ∧ Below lo w w' := by
  have hb := ho.block
  obtain ⟨rs, hrs⟩ := ho
  refine (l3Put_any g n c lo w.heap.size rs xss b m d p w hrs hn hl hp (Nat.le_refl _) hlow).mono ?_
  rintro e w' ⟨g', n', c', he, ho', hg, _⟩
  exact ⟨g', n', c', he, ho', hg, grownBy_below hg hlow (fun k hk => (hb k hk).1)⟩

end Go.Proofs.Ytjhlianledgiiaa
