/- The walks of the inverse and of the composition, of the program and of the reference. Condition: permutations. -/
import Derived.Test.YtjhlianledgiiaaF02
namespace Go.Proofs.Ytjhlianledgiiaa
open Go.RowKit

/-- The inverse after the first k places. -/
def invTo (xs : List Int) : Nat → List Int
  | 0 => List.replicate xs.length 0
  | k + 1 => (invTo xs k).set ((xs.getD k 0).toNat - 1) ((k : Int) + 1)
def inv (xs : List Int) : List Int := invTo xs xs.length
theorem length_invTo (xs : List Int) (k : Nat) : (invTo xs k).length = xs.length := by
  induction k with
  | zero => simp [invTo]
  | succ k ih => simp [invTo, ih]
theorem length_inv (xs : List Int) : (inv xs).length = xs.length := length_invTo _ _
theorem invTo_succ {xs : List Int} {k v : Nat} (h : xs[k]? = some (v : Int)) : invTo xs (k + 1) = (invTo xs k).set (v - 1) ((k : Int) + 1) := by
  simp [invTo, h]
theorem perm_at {xs : List Int} {k n : Nat} {x : Int} (hp : IsPermL xs) (hn : xs.length = n) (h : xs[k]? = some x) : ∃ v : Nat, x = (v : Int) ∧ 1 ≤ v ∧ v ≤ n := by
  have := hp.1 x (List.mem_of_getElem? h)
  exact ⟨x.toNat, by omega, by omega, by omega⟩

set_option maxHeartbeats 400000 in
theorem inverse_any (a : Option Addr) (n c : Nat) (xs : List Int) (w : World) (h : SlI w a n c xs) (hp : Hid (IsPermL xs)) :
    Calls Try.prog 92 #[.slice a n c] w (RetI w (inv xs)) := by
  obtain ⟨ha, hn, hnb, _⟩ := h
  have HN := Lib.hid hn; clear hn
  go_enter Try.func92, Try.ntmps92
  go_wp2_with (at_make; refine wpList_mk1 rfl _ _ 22 rfl 3 (.int .i64 0) 8 Try.underlying22 infoInt rfl _ _ n rfl rfl (by omega) (by omega) ?_)
  intro w1 h1 hb1
  go_wp2
  go_loopw [11] (fun i wr => ∃ k : Nat, k ≤ n ∧ i = .int .i64 k ∧ OwnI wr w.heap.size (some ⟨w.heap.size, 0, none⟩) n n (invTo xs k) ∧ Below w.heap.size w wr) (fun i _ => n - (intOf i).toNat)
  case atStart => exact ⟨0, Nat.zero_le _, rfl, ⟨by rw [length_invTo]; exact HN.out, by simp only [invTo, HN.out]; simpa using h1⟩, hb1⟩
  case round =>
    obtain ⟨k, hk, rfl, ho, hb⟩ := hrel
    by_cases hlt : k < n
    · obtain ⟨ab, ao, x, rfl, hx, HX⟩ := (ha.below hb).at (i := k) (by rw [HN.out]; exact hlt)
      obtain ⟨v, rfl, hv1, hv2⟩ := perm_at hp.out HN.out HX.out
      have hf := ho.frozen (v - 1)
      obtain ⟨y, hy, _⟩ := ho.cell (j := v - 1) (by omega)
      go_wp2
      go_roundw
      case rel =>
        obtain ⟨_, h2, h3⟩ := ho.set (v - 1) ((k : Int) + 1)
        rw [← invTo_succ HX.out] at h2
        exact ⟨k + 1, by omega, by go_num, h2, hb.trans (grownBy_below h3 hb.size (by simp))⟩
      case measure => simp [intOf]; omega
    · have : k = n := by omega
      subst this
      have e : invTo xs k = inv xs := by unfold inv; rw [HN.out]
      rw [e] at ho
      go_wp2
      go_ret
      exact ⟨_, _, _, rfl, ho, hb⟩

set_option maxHeartbeats 400000 in
theorem l2Inverse_any (a : Option Addr) (n c : Nat) (xs : List Int) (w : World) (h : SlI w a n c xs) (hp : Hid (IsPermL xs)) :
    Calls Try.prog 94 #[.slice a n c] w (RetI w (inv xs)) := by
  obtain ⟨ha, hn, hnb, _⟩ := h
  have HN := Lib.hid hn; clear hn
  go_enter Try.func94, Try.ntmps94
  go_wp2_with (at_make; refine wpList_mk1 rfl _ _ 22 rfl 3 (.int .i64 0) 8 Try.underlying22 infoInt rfl _ _ n rfl rfl (by omega) (by omega) ?_)
  intro w1 h1 hb1
  go_wp2
  go_loopw [4] (fun i wr => ∃ k : Nat, k ≤ n ∧ i = .int .i64 k ∧ OwnI wr w.heap.size (some ⟨w.heap.size, 0, none⟩) n n (invTo xs k) ∧ Below w.heap.size w wr) (fun i _ => n - (intOf i).toNat)
  case atStart => exact ⟨0, Nat.zero_le _, rfl, ⟨by rw [length_invTo]; exact HN.out, by simp only [invTo, HN.out]; simpa using h1⟩, hb1⟩
  case round =>
    obtain ⟨k, hk, rfl, ho, hb⟩ := hrel
    by_cases hlt : k < n
    · obtain ⟨ab, ao, x, rfl, hx, HX⟩ := (ha.below hb).at (i := k) (by rw [HN.out]; exact hlt)
      obtain ⟨v, rfl, hv1, hv2⟩ := perm_at hp.out HN.out HX.out
      have hf := ho.frozen (v - 1)
      obtain ⟨y, hy, _⟩ := ho.cell (j := v - 1) (by omega)
      go_wp2
      go_roundw
      case rel =>
        obtain ⟨_, h2, h3⟩ := ho.set (v - 1) ((k : Int) + 1)
        rw [← invTo_succ HX.out] at h2
        exact ⟨k + 1, by omega, by go_num, h2, hb.trans (grownBy_below h3 hb.size (by simp))⟩
      case measure => simp [intOf]; omega
    · have : k = n := by omega
      subst this
      have e : invTo xs k = inv xs := by unfold inv; rw [HN.out]
      rw [e] at ho
      go_wp2
      go_ret
      exact ⟨_, _, _, rfl, ho, hb⟩

/-- InversePerm. -/
def invP (xs : List Int) : List Int := if Perm8 xs then inv xs else []
theorem length_invP (xs : List Int) : (invP xs).length ≤ 8 := by
  unfold invP; split
  · rename_i h; rw [length_inv]; exact h.1
  · simp

set_option maxHeartbeats 400000 in
theorem impl_InversePerm (a : Option Addr) (n c : Nat) (xs : List Int) (w : World) (h : SlI w a n c xs) :
    Calls Try.prog 46 #[.slice a n c] w (RetIB w (invP xs) (decide (Perm8 xs))) := by
  have hI := impl_IsPerm a n c xs w h
  by_cases hp : Perm8 xs
  · have e : invP xs = inv xs := if_pos hp
    rw [e]
    rw [decide_eq_true hp] at hI ⊢
    have HP : Hid (IsPermL xs) := hp.2
    clear hp e
    go_enter Try.func46, Try.ntmps46
    go_wp2_with fail
    refine hI.mono ?_
    rintro e w1 ⟨rfl, hb1⟩
    go_wp2_with fail
    refine (inverse_any a n c xs _ (h.below hb1) HP).mono ?_
    rintro e w2 ⟨a2, n2, c2, rfl, ho2, hb2⟩
    go_wp2
    go_ret2
    exact ⟨_, _, _, rfl, ho2.mono hb1.size, hb1.trans (hb2.mono hb1.size)⟩
  · have e : invP xs = [] := if_neg hp
    rw [e]
    rw [decide_eq_false hp] at hI ⊢
    clear hp e
    go_enter Try.func46, Try.ntmps46
    go_wp2_with fail
    refine hI.mono ?_
    rintro e w1 ⟨rfl, hb1⟩
    go_wp2
    go_ret2
    exact ⟨_, _, _, rfl, OwnI.nil _ _, hb1⟩

theorem OwnI.lit0' {w : World} {B : Nat} (hB : B ≤ w.heap.size) : OwnI (w.alloc (.cells #[] 3)) B (some ⟨w.heap.size, 0, none⟩) 0 0 [] := (OwnI.lit0 w).mono hB

set_option maxHeartbeats 400000 in
theorem spec_InversePerm (a : Option Addr) (n c : Nat) (xs : List Int) (w : World) (h : SlI w a n c xs) :
    Calls Try.prog 47 #[.slice a n c] w (RetIB w (invP xs) (decide (Perm8 xs))) := by
  have hI := spec_IsPerm a n c xs w h
  by_cases hp : Perm8 xs
  · have e : invP xs = inv xs := if_pos hp
    rw [e]
    rw [decide_eq_true hp] at hI ⊢
    have HP : Hid (IsPermL xs) := hp.2
    clear hp e
    go_enter Try.func47, Try.ntmps47
    go_wp2_with fail
    refine hI.mono ?_
    rintro e w1 ⟨rfl, hb1⟩
    go_wp2_with fail
    refine (l2Inverse_any a n c xs _ (h.below hb1) HP).mono ?_
    rintro e w2 ⟨a2, n2, c2, rfl, ho2, hb2⟩
    go_wp2
    go_ret2
    exact ⟨_, _, _, rfl, ho2.mono hb1.size, hb1.trans (hb2.mono hb1.size)⟩
  · have e : invP xs = [] := if_neg hp
    rw [e]
    rw [decide_eq_false hp] at hI ⊢
    clear hp e
    go_enter Try.func47, Try.ntmps47
    go_wp2_with fail
    refine hI.mono ?_
    rintro e w1 ⟨rfl, hb1⟩
    go_wp2
    go_ret2
    exact ⟨_, _, _, rfl, OwnI.lit0' hb1.size, hb1.alloc hb1.size _⟩

/-- p at q's numbers -/
def comp (p q : List Int) : List Int := q.map fun v => p.getD (v.toNat - 1) 0
theorem length_comp (p q : List Int) : (comp p q).length = q.length := by simp [comp]
theorem comp_snoc {p q : List Int} {k v : Nat} {y : Int} (h : q[k]? = some (v : Int)) (hy : p[v - 1]? = some y) : comp p (q.take (k + 1)) = comp p (q.take k) ++ [y] := by
  unfold comp; rw [take_snoc h]; simp [hy]

set_option maxHeartbeats 400000 in
theorem compose_any (a b : Option Addr) (n c m d : Nat) (xs ys : List Int) (w : World) (h : SlI w a n c xs) (k : SlI w b m d ys) (hp : Hid (IsPermL ys)) (hl : Hid (xs.length = ys.length)) :
    Calls Try.prog 101 #[.slice a n c, .slice b m d] w (RetI w (comp xs ys)) := by
  obtain ⟨ha, hn, hnb, _⟩ := h
  obtain ⟨hb', hm, hmb, _⟩ := k
  have HN := Lib.hid hn; clear hn
  have HM := Lib.hid hm; clear hm
  have hnm : n = m := by have h1 := HN.out; have h2 := HM.out; have h3 := hl.out; omega
  subst hnm
  go_enter Try.func101, Try.ntmps101
  go_wp2
  go_loopw [5, 11] (fun v i wr => ∃ (k c : Nat) (a : Option Addr), k ≤ n ∧ i = .int .i64 k ∧ v = .slice a k c ∧ OwnI wr w.heap.size a k c (comp xs (ys.take k)) ∧ Below w.heap.size w wr) (fun _ i _ => n - (intOf i).toNat)
  case atStart => exact ⟨0, 0, _, Nat.zero_le _, rfl, rfl, OwnI.lit0 w, below_alloc _ _⟩
  case round =>
    obtain ⟨k, c1, a1, hk, rfl, rfl, ho, hb⟩ := hrel
    by_cases hlt : k < n
    · obtain ⟨bb, bo, x, rfl, hx, HX⟩ := (hb'.below hb).at (i := k) (by rw [HM.out]; exact hlt)
      obtain ⟨v, rfl, hv1, hv2⟩ := perm_at hp.out HM.out HX.out
      obtain ⟨ab, ao, y, rfl, hy, HY⟩ := (ha.below hb).at (i := v - 1) (by rw [HN.out]; omega)
      go_wp2_with (at_builtin; refine wpList_appI rfl _ _ rfl w.heap.size _ _ _ _ rfl ho _ rfl (by omega) hb.size ?_)
      intro a' c' w1 h1 h3
      go_wp2
      go_roundw
      case rel => exact ⟨k + 1, c', a', by omega, by go_num, rfl, by rw [comp_snoc HX.out HY.out]; exact h1, hb.trans h3⟩
      case measure => simp [intOf]; omega
    · have : k = n := by omega
      subst this
      rw [List.take_of_length_le (by rw [HM.out]; exact Nat.le_refl _)] at ho
      go_wp2
      go_ret
      exact ⟨_, _, _, rfl, ho, hb⟩

/-- ComposePerm -/
def ComposeOk (p q : List Int) : Prop := Perm8 p ∧ Perm8 q ∧ p.length = q.length
instance (p q : List Int) : Decidable (ComposeOk p q) := inferInstanceAs (Decidable (_ ∧ _))
def compP (p q : List Int) : List Int := if ComposeOk p q then comp p q else []
theorem length_compP (p q : List Int) : (compP p q).length ≤ 8 := by
  unfold compP; split
  · rename_i h; rw [length_comp]; exact h.2.1.1
  · simp

set_option maxHeartbeats 800000 in
theorem impl_ComposePerm (a : Option Addr) (n c : Nat) (xs : List Int) (b : Option Addr) (m d : Nat) (ys : List Int) (w : World) (h : SlI w a n c xs) (k : SlI w b m d ys) :
    Calls Try.prog 49 #[.slice a n c, .slice b m d] w (RetIB w (compP xs ys) (decide (ComposeOk xs ys))) := by
  have hI := impl_IsPerm a n c xs w h
  by_cases hp : Perm8 xs
  · rw [decide_eq_true hp] at hI
    by_cases hq : Perm8 ys
    · by_cases hl : n = m
      · have hok : ComposeOk xs ys := ⟨hp, hq, by rw [h.2.1, k.2.1, hl]⟩
        have e : compP xs ys = comp xs ys := if_pos hok
        have HL : Hid (xs.length = ys.length) := hok.2.2
        have HQ : Hid (IsPermL ys) := hq.2
        have HQ8 : Hid (Perm8 ys) := hq
        rw [e, decide_eq_true hok]
        clear hok e hp hq
        subst hl
        go_enter Try.func49, Try.ntmps49
        go_wp2_with fail
        refine hI.mono ?_
        rintro e w1 ⟨rfl, hb1⟩
        go_wp2_with fail
        refine (impl_IsPerm b n d ys _ (k.below hb1)).mono ?_
        rw [decide_eq_true HQ8.out]
        rintro e w2 ⟨rfl, hb2⟩
        have hB2 : Below w.heap.size w w2 := hb1.trans (hb2.mono hb1.size)
        go_wp2_with fail
        refine (compose_any a b n c n d xs ys _ (h.below hB2) (k.below hB2) HQ HL).mono ?_
        rintro e w3 ⟨a3, n3, c3, rfl, ho3, hb3⟩
        go_wp2
        go_ret2
        exact ⟨_, _, _, rfl, ho3.mono hB2.size, hB2.trans (hb3.mono hB2.size)⟩
      · have hno : ¬ ComposeOk xs ys := fun ho => hl (by rw [← h.2.1, ← k.2.1]; exact ho.2.2)
        have e : compP xs ys = [] := if_neg hno
        have HQ8 : Hid (Perm8 ys) := hq
        rw [e, decide_eq_false hno]
        clear hno e hp hq
        go_enter Try.func49, Try.ntmps49
        go_wp2_with fail
        refine hI.mono ?_
        rintro e w1 ⟨rfl, hb1⟩
        go_wp2_with fail
        refine (impl_IsPerm b m d ys _ (k.below hb1)).mono ?_
        rw [decide_eq_true HQ8.out]
        rintro e w2 ⟨rfl, hb2⟩
        have hB2 : Below w.heap.size w w2 := hb1.trans (hb2.mono hb1.size)
        go_wp2
        go_ret2
        exact ⟨_, _, _, rfl, OwnI.nil _ _, hB2⟩
    · have hno : ¬ ComposeOk xs ys := fun ho => hq ho.2.1
      have e : compP xs ys = [] := if_neg hno
      have HQ8 : Hid (¬ Perm8 ys) := hq
      rw [e, decide_eq_false hno]
      clear hno e hp hq
      go_enter Try.func49, Try.ntmps49
      go_wp2_with fail
      refine hI.mono ?_
      rintro e w1 ⟨rfl, hb1⟩
      go_wp2_with fail
      refine (impl_IsPerm b m d ys _ (k.below hb1)).mono ?_
      rw [decide_eq_false HQ8.out]
      rintro e w2 ⟨rfl, hb2⟩
      have hB2 : Below w.heap.size w w2 := hb1.trans (hb2.mono hb1.size)
      go_wp2
      go_ret2
      exact ⟨_, _, _, rfl, OwnI.nil _ _, hB2⟩
  · rw [decide_eq_false hp] at hI
    have hno : ¬ ComposeOk xs ys := fun ho => hp ho.1
    have e : compP xs ys = [] := if_neg hno
    rw [e, decide_eq_false hno]
    clear hno e hp
    go_enter Try.func49, Try.ntmps49
    go_wp2_with fail
    refine hI.mono ?_
    rintro e w1 ⟨rfl, hb1⟩
    go_wp2
    go_ret2
    exact ⟨_, _, _, rfl, OwnI.nil _ _, hb1⟩
end Go.Proofs.Ytjhlianledgiiaa
