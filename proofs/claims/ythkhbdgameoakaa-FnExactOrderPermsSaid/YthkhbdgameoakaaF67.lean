/- LowersOf and SymmetryClass, of the program and of the reference. No condition. -/
import Derived.Test.YthkhbdgameoakaaF64
import Derived.Test.YthkhbdgameoakaaF66
import Derived.Test.YthkhbdgameoakaaF61
import Derived.Test.YthkhbdgameoakaaF17
namespace Go.Proofs.Ythkhbdgameoakaa
open Go.RowKit

theorem length_putL (l : List (List Int)) (p : List Int) : (putL l p).length ≤ l.length + 1 := by
  unfold putL; split
  · omega
  · rw [List.length_append, List.length_cons, List.length_take, List.length_drop]
    have := putAt_le l p l.length; omega
theorem length_ordL (l : List (List Int)) : (ordL l).length ≤ l.length := by
  have : ∀ (l a : List (List Int)), (l.foldl putL a).length ≤ a.length + l.length := by
    intro l
    induction l with
    | nil => intro a; simp
    | cons p l ih => intro a; have h1 := ih (putL a p); have h2 := length_putL a p; simp only [List.foldl_cons, List.length_cons]; omega
  have := this l []; simpa [ordL] using this
theorem mem_ordL {l : List (List Int)} {x : List Int} (h : x ∈ ordL l) : x ∈ l := ((ordL_spec l).2 x).1 h
theorem ordL_take {l : List (List Int)} {k : Nat} {x : List Int} (h : l[k]? = some x) : ordL (l.take (k + 1)) = putL (ordL (l.take k)) x := by
  rw [take_snoc h, ordL_snoc]

/-! ### LowersOf -/
def lowL (xs : List Int) : List (List Int) := (List.range xs.length).map (wo xs)
def lowP (xs : List Int) : List (List Int) := if Perm8 xs then ordL (lowL xs) else []
theorem length_wo (xs : List Int) (k : Nat) : (wo xs k).length ≤ xs.length := by
  unfold wo; rw [length_pat, List.length_append, List.length_take, List.length_drop]; omega
theorem lowL_at {xs : List Int} {k : Nat} (h : k < xs.length) : (lowL xs)[k]? = some (wo xs k) := by simp [lowL, h]
theorem length_lowL (xs : List Int) : (lowL xs).length = xs.length := by simp [lowL]
theorem rows_lowL {xs : List Int} (h : xs.length ≤ 8) : ∀ r ∈ lowL xs, r.length ≤ 8 := by
  intro r hr
  obtain ⟨k, _, rfl⟩ := List.mem_map.1 hr
  have := length_wo xs k; omega
theorem bound_lowP (xs : List Int) : totL (lowP xs) ≤ 2097152 ∧ (lowP xs).length ≤ 2097152 := by
  unfold lowP; split
  · rename_i h
    refine bound_rows (k := 8) (m := 8) ?_ (fun r hr => rows_lowL h.1 r (mem_ordL hr)) (by omega) (by omega)
    have := length_ordL (lowL xs); rw [length_lowL] at this; have := h.1; omega
  · simp [totL]

set_option maxHeartbeats 1000000 in
theorem lowers_any (a : Option Addr) (n c : Nat) (xs : List Int) (w : World) (h : SlI w a n c xs) (h8 : n ≤ 8) :
    Calls Try.prog 82 #[.slice a n c] w (RetII w (ordL (lowL xs))) := by
  have HN : Hid (xs.length = n) := h.2.1
  go_enter Try.func82, Try.ntmps82
  go_wp2
  go_loopw [3, 4, 8] (fun v _ i wr => ∃ (k c1 : Nat) (a1 : Option Addr), k ≤ n ∧ i = .int .i64 k ∧ v = .slice a1 k c1 ∧ OwnII wr w.heap.size wr.heap.size a1 k c1 ((lowL xs).take k) ∧ Below w.heap.size w wr) (fun _ _ i _ => n - (intOf i).toNat)
  case atStart => exact ⟨0, 0, _, Nat.zero_le _, rfl, rfl, OwnII.start w, below_alloc _ _⟩
  case round =>
    obtain ⟨k, c1, a1, hk, rfl, rfl, ho, hb⟩ := hrel
    by_cases hlt : k < n
    · have hC := without_any a n c k xs wr (h.below hb) hlt (by omega)
      have HE : Hid ((lowL xs).take (k + 1) = (lowL xs).take k ++ [wo xs k]) := take_snoc (lowL_at (by rw [HN.out]; exact hlt))
      go_wp2_with fail
      refine hC.mono ?_
      rintro e w1 ⟨a4, n4, c4, rfl, ho4, hb4⟩
      have ho1 := ho.below hb4
      have hsz := hb4.size
      go_wp2_with (at_builtin; refine wpList_appII rfl _ _ rfl w.heap.size _ _ _ _ _ _ rfl ho1 _ _ _ _ ho4.ins (Nat.le_refl _) hb.size _ rfl rfl (by omega) (by have := hb.size; omega) (by omega) ?_)
      intro a' c' w2 g1 g2 _
      have hbb := (hb.trans (hb4.mono hb.size)).trans g2
      clear ho4 ho1 hb4 hC
      go_wp2
      go_roundw
      case rel => exact ⟨k + 1, c', a', by omega, by go_num, rfl, by rw [HE.out]; exact g1, hbb⟩
      case measure => simp [intOf]; omega
    · obtain rfl : k = n := by omega
      have ho' : OwnII wr w.heap.size wr.heap.size a1 k c1 (lowL xs) := by rwa [List.take_of_length_le (by rw [length_lowL, HN.out]; exact Nat.le_refl _)] at ho
      have hS := ordered_any a1 k c1 (lowL xs) wr (ho'.iis (by omega) (fun r hr => by have := rows_lowL (by rw [HN.out]; exact h8) r hr; omega)) (by omega)
      clear ho ho'
      go_wp2_with fail
      refine hS.mono ?_
      rintro e w2 ⟨a2, n2, c2, rfl, ho2, hb2⟩
      go_wp2
      go_ret
      exact ⟨_, _, _, rfl, ho2.mono hb.size (Nat.le_refl _), hb.trans (hb2.mono hb.size)⟩

set_option maxHeartbeats 400000 in
theorem impl_LowersOf (a : Option Addr) (n c : Nat) (xs : List Int) (w : World) (h : SlI w a n c xs) :
    Calls Try.prog 26 #[.slice a n c] w (RetII w (lowP xs)) := by
  have hI := impl_IsPerm a n c xs w h
  by_cases hp : Perm8 xs
  · rw [decide_eq_true hp] at hI
    have h8 : n ≤ 8 := by have h1 := hp.1; have h2 := h.2.1; omega
    have e : lowP xs = ordL (lowL xs) := if_pos hp
    rw [e]; clear e hp
    go_enter Try.func26, Try.ntmps26
    go_wp2_with fail
    refine hI.mono ?_
    rintro e w1 ⟨rfl, hb1⟩
    go_wp2_with fail
    refine (lowers_any a n c xs _ (h.below hb1) h8).mono ?_
    rintro e w2 ⟨a1, n1, c1, rfl, ho1, hb2⟩
    go_wp2
    go_ret
    exact ⟨_, _, _, rfl, ho1.mono hb1.size (Nat.le_refl _), hb1.trans (hb2.mono hb1.size)⟩
  · rw [decide_eq_false hp] at hI
    have e : lowP xs = [] := if_neg hp
    rw [e]; clear e hp
    go_enter Try.func26, Try.ntmps26
    go_wp2_with fail
    refine hI.mono ?_
    rintro e w1 ⟨rfl, hb1⟩
    go_wp2
    go_ret
    exact ⟨_, _, _, rfl, OwnII.nil _ _ _, hb1⟩

/-- A list of lists of the call's own that is put into: not nil. -/
def OwnP (w : World) (lo : Nat) (v : Value) (n : Nat) (xss : List (List Int)) : Prop := ∃ g c, v = .slice (some ⟨g, 0, none⟩) n c ∧ OwnII w lo w.heap.size (some ⟨g, 0, none⟩) n c xss ∧ lo ≤ g
theorem OwnP.start (w : World) : OwnP (w.alloc (.cells #[] 22)) w.heap.size (.slice (some ⟨w.heap.size, 0, none⟩) 0 0) 0 [] := ⟨_, _, rfl, OwnII.start w, Nat.le_refl _⟩
theorem l3Put_own (g n c lo : Nat) (xss : List (List Int)) (b : Option Addr) (m d : Nat) (p : List Int) (w : World) (ho : OwnII w lo w.heap.size (some ⟨g, 0, none⟩) n c xss) (hn : n ≤ 2097152) (hl : Hid (∀ xs ∈ xss, xs.length ≤ 2097152)) (hp : SlI w b m d p) (hlow : lo ≤ w.heap.size) :
    Calls Try.prog 72 #[.slice (some ⟨g, 0, none⟩) n c, .slice b m d] w fun e w' =>
      ∃ g' n' c', e = .returned (.slice (some ⟨g', 0, none⟩) n' c') ∧ OwnII w' lo w'.heap.size (some ⟨g', 0, none⟩) n' c' (putL xss p) ∧ w.grownBy w' (some g) ∧ Below lo w w' := by
  have hb := ho.block
  obtain ⟨rs, hrs⟩ := ho
  refine (l3Put_any g n c lo w.heap.size rs xss b m d p w hrs hn hl hp (Nat.le_refl _) hlow).mono ?_
  rintro e w' ⟨g', n', c', he, ho', hg⟩
  exact ⟨g', n', c', he, ho', hg, grownBy_below hg hlow (fun k hk => (hb k hk).1)⟩

set_option maxHeartbeats 1000000 in
theorem spec_LowersOf (a : Option Addr) (n c : Nat) (xs : List Int) (w : World) (h : SlI w a n c xs) :
    Calls Try.prog 25 #[.slice a n c] w (RetII w (lowP xs)) := by
  have HN : Hid (xs.length = n) := h.2.1
  have hI : ∀ W, Below w.heap.size w W → Calls Try.prog 47 #[.slice a n c] W (RetV W (.bool (decide (Perm8 xs)))) := fun W hb => spec_IsPerm a n c xs W (h.below hb)
  by_cases hp : Perm8 xs
  · simp only [decide_eq_true hp] at hI
    have h8 : n ≤ 8 := by have h1 := hp.1; have h2 := h.2.1; omega
    have e : lowP xs = ordL (lowL xs) := if_pos hp
    have HI := Lib.hid hI
    rw [e]; clear e hp hI
    go_enter Try.func25, Try.ntmps25
    go_wp2
    go_loopw [3, 4] (fun v i wr => ∃ (k n1 c1 g1 : Nat), k ≤ n ∧ n1 ≤ k ∧ i = .int .i64 k ∧ v = .slice (some ⟨g1, 0, none⟩) n1 c1 ∧ OwnII wr w.heap.size wr.heap.size (some ⟨g1, 0, none⟩) n1 c1 (ordL ((lowL xs).take k)) ∧ Below w.heap.size w wr) (fun _ i _ => n - (intOf i).toNat)
    case atStart => exact ⟨0, 0, 0, _, Nat.zero_le _, Nat.le_refl _, rfl, rfl, OwnII.start w, below_alloc _ _⟩
    case round =>
      obtain ⟨k, n1, c1, g1, hk, hn1, rfl, rfl, ho, hb⟩ := hrel
      by_cases hlt : k < n
      · have HE : Hid (ordL ((lowL xs).take (k + 1)) = putL (ordL ((lowL xs).take k)) (wo xs k)) := ordL_take (lowL_at (by rw [HN.out]; exact hlt))
        have HL : Hid (∀ r ∈ ordL ((lowL xs).take k), r.length ≤ 2097152) := fun r hr => by have := rows_lowL (by rw [HN.out]; exact h8) r (List.mem_of_mem_take (mem_ordL hr)); omega
        go_wp2_with fail
        refine (HI.out _ hb).mono ?_
        rintro e w1 ⟨rfl, hb1⟩
        have hbw1 := hb.trans (hb1.mono hb.size)
        have ho1 := ho.below hb1
        have hz1 := hb1.size
        go_wp2_with fail
        refine (l7Without_any a n c k xs w1 (h.below hbw1) hlt (by omega)).mono ?_
        rintro e w2 ⟨a4, n4, c4, rfl, ho4, hb4⟩
        have hz2 := hb4.size
        have hbw2 := hbw1.trans (hb4.mono hbw1.size)
        have ho2 : OwnII w2 w.heap.size w2.heap.size (some ⟨g1, 0, none⟩) n1 c1 (ordL ((lowL xs).take k)) := (ho1.below hb4).mono (Nat.le_refl _) (by omega)
        have hn4 : n4 ≤ 8 := by have h1 := ho4.1; have h2 := length_wo xs k; have h3 := HN.out; omega
        have hP := l3Put_own g1 n1 c1 w.heap.size _ a4 n4 c4 _ w2 ho2 (by omega) HL (ho4.sl (by omega)) hbw2.size
        clear ho ho1 ho2 ho4 hb1 hb4
        go_wp2_with fail
        refine hP.mono ?_
        rintro e w3 ⟨g3, n3, c3, rfl, ho3, _, hb3⟩
        rw [← HE.out] at ho3
        have hn3 : n3 ≤ k + 1 := by have h1 := ho3.len; have h2 := length_ordL ((lowL xs).take (k + 1)); rw [List.length_take] at h2; omega
        clear hP
        go_wp2
        go_roundw
        case rel => exact ⟨k + 1, n3, c3, g3, by omega, hn3, by go_num, rfl, ho3, hbw2.trans hb3⟩
        case measure => simp [intOf]; omega
      · obtain rfl : k = n := by omega
        have ho' : OwnII wr w.heap.size wr.heap.size (some ⟨g1, 0, none⟩) n1 c1 (ordL (lowL xs)) := by rwa [List.take_of_length_le (by rw [length_lowL, HN.out]; exact Nat.le_refl _)] at ho
        clear ho
        go_wp2
        go_ret
        exact ⟨_, _, _, rfl, ho', hb⟩
  · simp only [decide_eq_false hp] at hI
    have e : lowP xs = [] := if_neg hp
    have hn0 : 0 < n := by
      rcases Nat.eq_zero_or_pos n with h0 | h0
      · exfalso; apply hp
        have h1 : xs = [] := List.eq_nil_of_length_eq_zero (by rw [HN.out, h0])
        rw [h1]; exact ⟨by simp, by simp, by simp⟩
      · exact h0
    have HI := Lib.hid (hI _ (below_alloc w (.cells #[] 22)))
    rw [e]; clear e hp hI
    have HO := Lib.hid (OwnII.start w)
    have hb0 := below_alloc w (.cells #[] 22)
    go_enter Try.func25, Try.ntmps25
    go_wp2
    refine wp_loop_rounds 1 ?_
    rw [rounds_succ]
    go_wp2_with fail
    refine HI.out.mono ?_
    rintro e w1 ⟨rfl, hb1⟩
    have ho1 := HO.out.below hb1
    have hz := hb1.size
    go_wp2
    go_ret
    exact ⟨_, _, _, rfl, ho1.mono (Nat.le_refl _) hz, hb0.trans (hb1.mono (by simp))⟩
end Go.Proofs.Ythkhbdgameoakaa
