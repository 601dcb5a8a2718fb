/- The walks of ReversePerm, ComplementPerm, IsInvolution, ComposePerm's reference. No condition. -/
import Derived.Test.YtjhlianledgiiaaF05
namespace Go.Proofs.Ytjhlianledgiiaa
open Go.RowKit

def revP (xs : List Int) : List Int := if Perm8 xs then xs.reverse else []
theorem length_revP (xs : List Int) : (revP xs).length ≤ 8 := by
  unfold revP; split
  · rename_i h; rw [List.length_reverse]; exact h.1
  · simp
def complP (xs : List Int) : List Int := if Perm8 xs then compl xs else []
theorem length_complP (xs : List Int) : (complP xs).length ≤ 8 := by
  unfold complP; split
  · rename_i h; rw [length_compl]; exact h.1
  · simp

set_option maxHeartbeats 400000 in
theorem impl_ReversePerm (a : Option Addr) (n c : Nat) (xs : List Int) (w : World) (h : SlI w a n c xs) :
    Calls Try.prog 39 #[.slice a n c] w (RetI w (revP xs)) := by
  have hI := impl_IsPerm a n c xs w h
  by_cases hp : Perm8 xs
  · have e : revP xs = xs.reverse := if_pos hp
    rw [e]
    rw [decide_eq_true hp] at hI
    have HP : Hid (IsPermL xs) := hp.2
    clear hp e
    go_enter Try.func39, Try.ntmps39
    go_wp2_with fail
    refine hI.mono ?_
    rintro e w1 ⟨rfl, hb1⟩
    go_wp2_with fail
    refine (reverse_any a n c xs _ (h.below hb1)).mono ?_
    rintro e w2 ⟨a2, n2, c2, rfl, ho2, hb2⟩
    go_wp2
    go_ret
    exact ⟨_, _, _, rfl, ho2.mono hb1.size, hb1.trans (hb2.mono hb1.size)⟩
  · have e : revP xs = [] := if_neg hp
    rw [e]
    rw [decide_eq_false hp] at hI
    clear hp e
    go_enter Try.func39, Try.ntmps39
    go_wp2_with fail
    refine hI.mono ?_
    rintro e w1 ⟨rfl, hb1⟩
    go_wp2
    go_ret
    exact ⟨_, _, _, rfl, OwnI.nil _ _, hb1⟩

set_option maxHeartbeats 400000 in
theorem spec_ReversePerm (a : Option Addr) (n c : Nat) (xs : List Int) (w : World) (h : SlI w a n c xs) :
    Calls Try.prog 40 #[.slice a n c] w (RetI w (revP xs)) := by
  have hI := spec_IsPerm a n c xs w h
  by_cases hp : Perm8 xs
  · have e : revP xs = xs.reverse := if_pos hp
    rw [e]
    rw [decide_eq_true hp] at hI
    have HP : Hid (IsPermL xs) := hp.2
    clear hp e
    go_enter Try.func40, Try.ntmps40
    go_wp2_with fail
    refine hI.mono ?_
    rintro e w1 ⟨rfl, hb1⟩
    go_wp2_with fail
    refine (l3Reverse_any a n c xs _ (h.below hb1)).mono ?_
    rintro e w2 ⟨a2, n2, c2, rfl, ho2, hb2⟩
    go_wp2
    go_ret
    exact ⟨_, _, _, rfl, ho2.mono hb1.size, hb1.trans (hb2.mono hb1.size)⟩
  · have e : revP xs = [] := if_neg hp
    rw [e]
    rw [decide_eq_false hp] at hI
    clear hp e
    go_enter Try.func40, Try.ntmps40
    go_wp2_with fail
    refine hI.mono ?_
    rintro e w1 ⟨rfl, hb1⟩
    go_wp2
    go_ret
    exact ⟨_, _, _, rfl, OwnI.lit0' hb1.size, hb1.alloc hb1.size _⟩

set_option maxHeartbeats 400000 in
theorem impl_ComplementPerm (a : Option Addr) (n c : Nat) (xs : List Int) (w : World) (h : SlI w a n c xs) :
    Calls Try.prog 41 #[.slice a n c] w (RetI w (complP xs)) := by
  have hI := impl_IsPerm a n c xs w h
  by_cases hp : Perm8 xs
  · have e : complP xs = compl xs := if_pos hp
    rw [e]
    rw [decide_eq_true hp] at hI
    have HP : Hid (IsPermL xs) := hp.2
    clear hp e
    go_enter Try.func41, Try.ntmps41
    go_wp2_with fail
    refine hI.mono ?_
    rintro e w1 ⟨rfl, hb1⟩
    go_wp2_with fail
    refine (complement_any a n c xs _ (h.below hb1) HP.out.upto).mono ?_
    rintro e w2 ⟨a2, n2, c2, rfl, ho2, hb2⟩
    go_wp2
    go_ret
    exact ⟨_, _, _, rfl, ho2.mono hb1.size, hb1.trans (hb2.mono hb1.size)⟩
  · have e : complP xs = [] := if_neg hp
    rw [e]
    rw [decide_eq_false hp] at hI
    clear hp e
    go_enter Try.func41, Try.ntmps41
    go_wp2_with fail
    refine hI.mono ?_
    rintro e w1 ⟨rfl, hb1⟩
    go_wp2
    go_ret
    exact ⟨_, _, _, rfl, OwnI.nil _ _, hb1⟩

set_option maxHeartbeats 400000 in
theorem spec_ComplementPerm (a : Option Addr) (n c : Nat) (xs : List Int) (w : World) (h : SlI w a n c xs) :
    Calls Try.prog 42 #[.slice a n c] w (RetI w (complP xs)) := by
  have hI := spec_IsPerm a n c xs w h
  by_cases hp : Perm8 xs
  · have e : complP xs = compl xs := if_pos hp
    rw [e]
    rw [decide_eq_true hp] at hI
    have HP : Hid (IsPermL xs) := hp.2
    clear hp e
    go_enter Try.func42, Try.ntmps42
    go_wp2_with fail
    refine hI.mono ?_
    rintro e w1 ⟨rfl, hb1⟩
    go_wp2_with fail
    refine (l3Complement_any a n c xs _ (h.below hb1) HP.out.upto).mono ?_
    rintro e w2 ⟨a2, n2, c2, rfl, ho2, hb2⟩
    go_wp2
    go_ret
    exact ⟨_, _, _, rfl, ho2.mono hb1.size, hb1.trans (hb2.mono hb1.size)⟩
  · have e : complP xs = [] := if_neg hp
    rw [e]
    rw [decide_eq_false hp] at hI
    clear hp e
    go_enter Try.func42, Try.ntmps42
    go_wp2_with fail
    refine hI.mono ?_
    rintro e w1 ⟨rfl, hb1⟩
    go_wp2
    go_ret
    exact ⟨_, _, _, rfl, OwnI.lit0' hb1.size, hb1.alloc hb1.size _⟩

set_option maxHeartbeats 400000 in
theorem impl_IsInvolution (a : Option Addr) (n c : Nat) (xs : List Int) (w : World) (h : SlI w a n c xs) :
    Calls Try.prog 35 #[.slice a n c] w (RetV w (.bool (decide (Perm8 xs ∧ xs = inv xs)))) := by
  have hI := impl_IsPerm a n c xs w h
  have HN : Hid (xs.length = n) := h.2.1
  have hn : n ≤ 2097152 := h.2.2.1
  by_cases hp : Perm8 xs
  · have e : decide (Perm8 xs ∧ xs = inv xs) = decide (xs = inv xs) := by simp [hp]
    rw [e]
    rw [decide_eq_true hp] at hI
    have HP : Hid (IsPermL xs) := hp.2
    clear hp e
    go_enter Try.func35, Try.ntmps35
    go_wp2_with fail
    refine hI.mono ?_
    rintro e w1 ⟨rfl, hb1⟩
    go_wp2_with fail
    refine (inverse_any a n c xs _ (h.below hb1) HP).mono ?_
    rintro e w2 ⟨a2, n2, c2, rfl, ho2, hb2⟩
    have HN2 : Hid ((inv xs).length = n2) := ho2.1
    go_wp2_with fail
    refine (slicesEqual_any a a2 n n2 c c2 xs (inv xs) _ ((h.below hb1).below hb2).1 ho2.ints HN.out HN2.out hn (by have h1 := HN.out; have h2 := HN2.out; rw [length_inv] at h2; omega)).mono ?_
    rintro e w3 ⟨rfl, hq⟩
    go_wp2
    go_ret
    exact ⟨rfl, (hb1.trans (hb2.mono hb1.size)).trans (hq.below _)⟩
  · have e : decide (Perm8 xs ∧ xs = inv xs) = false := by simp [hp]
    rw [e]
    rw [decide_eq_false hp] at hI
    clear hp e
    go_enter Try.func35, Try.ntmps35
    go_wp2_with fail
    refine hI.mono ?_
    rintro e w1 ⟨rfl, hb1⟩
    go_wp2
    go_ret
    exact ⟨rfl, hb1⟩

set_option maxHeartbeats 400000 in
theorem spec_IsInvolution (a : Option Addr) (n c : Nat) (xs : List Int) (w : World) (h : SlI w a n c xs) :
    Calls Try.prog 36 #[.slice a n c] w (RetV w (.bool (decide (Perm8 xs ∧ xs = inv xs)))) := by
  have hI := spec_IsPerm a n c xs w h
  have HN : Hid (xs.length = n) := h.2.1
  have hn : n ≤ 2097152 := h.2.2.1
  by_cases hp : Perm8 xs
  · have e : decide (Perm8 xs ∧ xs = inv xs) = decide (xs = inv xs) := by simp [hp]
    rw [e]
    rw [decide_eq_true hp] at hI
    have HP : Hid (IsPermL xs) := hp.2
    clear hp e
    go_enter Try.func36, Try.ntmps36
    go_wp2_with fail
    refine hI.mono ?_
    rintro e w1 ⟨rfl, hb1⟩
    go_wp2_with fail
    refine (l2Inverse_any a n c xs _ (h.below hb1) HP).mono ?_
    rintro e w2 ⟨a2, n2, c2, rfl, ho2, hb2⟩
    have HN2 : Hid ((inv xs).length = n2) := ho2.1
    go_wp2_with fail
    refine (l2Same_any a a2 n n2 c c2 xs (inv xs) _ ((h.below hb1).below hb2).1 ho2.ints HN.out HN2.out hn (by have h1 := HN.out; have h2 := HN2.out; rw [length_inv] at h2; omega)).mono ?_
    rintro e w3 ⟨rfl, hq⟩
    go_wp2
    go_ret
    exact ⟨rfl, (hb1.trans (hb2.mono hb1.size)).trans (hq.below _)⟩
  · have e : decide (Perm8 xs ∧ xs = inv xs) = false := by simp [hp]
    rw [e]
    rw [decide_eq_false hp] at hI
    clear hp e
    go_enter Try.func36, Try.ntmps36
    go_wp2_with fail
    refine hI.mono ?_
    rintro e w1 ⟨rfl, hb1⟩
    go_wp2
    go_ret
    exact ⟨rfl, hb1⟩

set_option maxHeartbeats 800000 in
theorem spec_ComposePerm (a : Option Addr) (n c : Nat) (xs : List Int) (b : Option Addr) (m d : Nat) (ys : List Int) (w : World) (h : SlI w a n c xs) (kq : SlI w b m d ys) :
    Calls Try.prog 50 #[.slice a n c, .slice b m d] w (RetIB w (compP xs ys) (decide (ComposeOk xs ys))) := by
  have hI := spec_IsPerm a n c xs w h
  by_cases hp : Perm8 xs
  · rw [decide_eq_true hp] at hI
    by_cases hq : Perm8 ys
    · by_cases hl : n = m
      · have hok : ComposeOk xs ys := ⟨hp, hq, by rw [h.2.1, kq.2.1, hl]⟩
        have e : compP xs ys = comp xs ys := if_pos hok
        have HP : Hid (IsPermL ys) := hq.2
        have HQ8 : Hid (Perm8 ys) := hq
        rw [e, decide_eq_true hok]
        clear hok e hp hq
        subst hl
        have HN : Hid (xs.length = n) := h.2.1
        have HM : Hid (ys.length = n) := kq.2.1
        have hn : n ≤ 2097152 := h.2.2.1
        go_enter Try.func50, Try.ntmps50
        go_wp2_with fail
        refine hI.mono ?_
        rintro e w1 ⟨rfl, hb1⟩
        go_wp2_with fail
        refine (spec_IsPerm b n d ys _ (kq.below hb1)).mono ?_
        rw [decide_eq_true HQ8.out]
        rintro e w2 ⟨rfl, hb2⟩
        have hB2 : Below w.heap.size w w2 := hb1.trans (hb2.mono hb1.size)
        have ha := (h.below hB2).1
        have hbb := (kq.below hB2).1
        go_wp2
        go_loopw [6, 7] (fun v i wr => ∃ (k c : Nat) (a : Option Addr), k ≤ n ∧ i = .int .i64 k ∧ v = .slice a k c ∧ OwnI wr w2.heap.size a k c (comp xs (ys.take k)) ∧ Below w2.heap.size w2 wr) (fun _ i _ => n - (intOf i).toNat)
        case atStart => exact ⟨0, 0, _, Nat.zero_le _, rfl, rfl, OwnI.lit0 w2, below_alloc _ _⟩
        case round =>
          obtain ⟨k, c1, a1, hk, rfl, rfl, ho, hb⟩ := hrel
          by_cases hlt : k < n
          · obtain ⟨bb, bo, x, rfl, hx, HX⟩ := (hbb.below hb).at (i := k) (by rw [HM.out]; exact hlt)
            obtain ⟨v, rfl, hv1, hv2⟩ := perm_at HP.out HM.out HX.out
            obtain ⟨ab, ao, y, rfl, hy, HY⟩ := (ha.below hb).at (i := v - 1) (by rw [HN.out]; omega)
            go_wp2_with (at_builtin; refine wpList_appI rfl _ _ rfl w2.heap.size _ _ _ _ rfl ho _ rfl (by omega) hb.size ?_)
            intro a' c' w1 h1 h3
            go_wp2
            go_roundw
            case rel => exact ⟨k + 1, c', a', by omega, by go_num, rfl, by rw [comp_snoc HX.out HY.out]; exact h1, hb.trans h3⟩
            case measure => simp [intOf]; omega
          · have : k = n := by omega
            subst this
            rw [List.take_of_length_le (by rw [HM.out]; exact Nat.le_refl _)] at ho
            go_wp2
            go_ret2
            exact ⟨_, _, _, rfl, ho.mono hB2.size, hB2.trans (hb.mono hB2.size)⟩
      · have hno : ¬ ComposeOk xs ys := fun ho => hl (by rw [← h.2.1, ← kq.2.1]; exact ho.2.2)
        have e : compP xs ys = [] := if_neg hno
        have HQ8 : Hid (Perm8 ys) := hq
        rw [e, decide_eq_false hno]
        clear hno e hp hq
        go_enter Try.func50, Try.ntmps50
        go_wp2_with fail
        refine hI.mono ?_
        rintro e w1 ⟨rfl, hb1⟩
        go_wp2_with fail
        refine (spec_IsPerm b m d ys _ (kq.below hb1)).mono ?_
        rw [decide_eq_true HQ8.out]
        rintro e w2 ⟨rfl, hb2⟩
        have hB2 : Below w.heap.size w w2 := hb1.trans (hb2.mono hb1.size)
        go_wp2
        go_ret2
        exact ⟨_, _, _, rfl, OwnI.lit0' hB2.size, hB2.alloc hB2.size _⟩
    · have hno : ¬ ComposeOk xs ys := fun ho => hq ho.2.1
      have e : compP xs ys = [] := if_neg hno
      have HQ8 : Hid (¬ Perm8 ys) := hq
      rw [e, decide_eq_false hno]
      clear hno e hp hq
      go_enter Try.func50, Try.ntmps50
      go_wp2_with fail
      refine hI.mono ?_
      rintro e w1 ⟨rfl, hb1⟩
      go_wp2_with fail
      refine (spec_IsPerm b m d ys _ (kq.below hb1)).mono ?_
      rw [decide_eq_false HQ8.out]
      rintro e w2 ⟨rfl, hb2⟩
      have hB2 : Below w.heap.size w w2 := hb1.trans (hb2.mono hb1.size)
      go_wp2
      go_ret2
      exact ⟨_, _, _, rfl, OwnI.lit0' hB2.size, hB2.alloc hB2.size _⟩
  · rw [decide_eq_false hp] at hI
    have hno : ¬ ComposeOk xs ys := fun ho => hp ho.1
    have e : compP xs ys = [] := if_neg hno
    rw [e, decide_eq_false hno]
    clear hno e hp
    go_enter Try.func50, Try.ntmps50
    go_wp2_with fail
    refine hI.mono ?_
    rintro e w1 ⟨rfl, hb1⟩
    go_wp2
    go_ret2
    exact ⟨_, _, _, rfl, OwnI.lit0' hb1.size, hb1.alloc hb1.size _⟩
end Go.Proofs.Ytjhlianledgiiaa
