/- IsLayered, of the program and of the reference. No condition. -/
import Derived.Test.YtmojniiimondfaaF23
import Derived.Test.YtmojniiimondfaaF03
namespace Go.Proofs.Ytmojniiimondfaa
open Go.RowKit

/-- Is it in descending order? -/
def fallB (xs : List Int) : Bool := decide (xs = (ident xs.length).reverse)
def layP (xs : List Int) : Bool := decide (Perm8 xs) && (sumPs xs).all fallB
theorem fallB_rev (xs : List Int) : decide (xs.reverse = ident xs.length) = fallB xs := by
  unfold fallB
  by_cases h : xs.reverse = ident xs.length
  · rw [decide_eq_true h, ← h, List.reverse_reverse]; simp
  · rw [decide_eq_false h]
    symm
    rw [decide_eq_false_iff_not]
    intro e
    apply h
    have := congrArg List.reverse e
    rwa [List.reverse_reverse] at this

set_option maxHeartbeats 400000 in
theorem isFalling_any (a : Option Addr) (n c : Nat) (xs : List Int) (w : World) (h : SlI w a n c xs) (h8 : n ≤ 8) :
    Calls Try.prog 98 #[.slice a n c] w (RetV w (.bool (fallB xs))) := by
  have HN : Hid (xs.length = n) := h.2.1
  go_enter Try.func98, Try.ntmps98
  go_wp2_with fail
  refine (identity_any n _ h8).mono ?_
  rintro e w1 ⟨a1, n1, c1, rfl, ho1, hb1⟩
  have hn1 : n1 ≤ 8 := by have h1 := ho1.1; rw [length_ident] at h1; omega
  go_wp2_with fail
  refine (reverse_any a1 n1 c1 _ _ (ho1.sl (by omega))).mono ?_
  rintro e w2 ⟨a2, n2, c2, rfl, ho2, hb2⟩
  have hn2 : n2 ≤ 8 := by have h1 := ho2.1; have h2 := ho1.1; rw [List.length_reverse] at h1; omega
  have hb : Below w.heap.size w w2 := hb1.trans (hb2.mono hb1.size)
  go_wp2_with fail
  refine (slicesEqual_any a a2 n n2 c c2 xs _ _ (h.below hb).1 ho2.ints h.2.1 ho2.1 (by omega) (by omega)).mono ?_
  rintro e w3 ⟨rfl, hq⟩
  go_wp2
  go_ret
  exact ⟨ret_bool (by unfold fallB; rw [HN.out]), hb.trans (hq.below _)⟩

set_option maxHeartbeats 400000 in
theorem layClosure_any (a : Option Addr) (n c : Nat) (xs : List Int) (w : World) (h : SlI w a n c xs) (h8 : n ≤ 8) :
    Calls Try.prog 97 #[.slice a n c] w (RetV w (.bool (!fallB xs))) := by
  have hC := isFalling_any a n c xs w h h8
  generalize fallB xs = b at *
  go_enter Try.func97, Try.ntmps97
  go_wp2_with fail
  refine hC.mono ?_
  rintro e w1 ⟨rfl, hb1⟩
  go_wp2
  go_ret
  exact ⟨rfl, hb1⟩

set_option maxHeartbeats 400000 in
theorem layIndexFunc_any (a : Option Addr) (n c : Nat) (xss : List (List Int)) (w : World) (ha : IIs w a n c xss) (h8 : Hid (∀ xs ∈ xss, xs.length ≤ 8)) :
    Calls Try.prog 115 #[.slice a n c, .func (.func 97) #[] #[]] w fun e w' => ∃ z : Int, e = .returned (.int .i64 z) ∧ Hid (decide (0 ≤ z) = xss.any fun xs => !fallB xs) ∧ Below w.heap.size w w' := by
  have HN : Hid (xss.length = n) := ha.2.1
  have hnb := ha.2.2.1
  go_enter Try.func115, Try.ntmps115
  go_wp2
  go_loopw [8, 5] (fun i _ wr => ∃ k : Nat, k ≤ n ∧ i = .int .i64 k ∧ Hid (((xss.take k).any fun xs => !fallB xs) = false) ∧ Below w.heap.size w wr) (fun i _ _ => n - (intOf i).toNat)
  case atStart => exact ⟨0, Nat.zero_le _, rfl, by simp [Hid], Below.refl _ _⟩
  case round =>
    obtain ⟨k, hk, rfl, HT, hb⟩ := hrel
    by_cases hlt : k < n
    · obtain ⟨ab, ao, ra, rn, rc, xs, rfl, hx, hr, HX⟩ := (ha.below hb).at hlt
      have hr8 : rn ≤ 8 := by rw [← hr.2.1]; exact h8.out xs (List.mem_of_getElem? HX.out)
      have hC := layClosure_any ra rn rc xs wr hr hr8
      have HT' : Hid (((xss.take (k + 1)).any fun xs => !fallB xs) = !fallB xs) := by
        show _ = _
        rw [take_snoc HX.out, List.any_append, HT.out]; simp
      have HF : Hid (fallB xs = false → (xss.any fun xs => !fallB xs) = true) := fun h => List.any_eq_true.2 ⟨xs, List.mem_of_getElem? HX.out, by simp [h]⟩
      generalize fallB xs = b at *
      clear hr
      cases b with
      | true =>
        go_wp2_with fail
        refine hC.mono ?_
        rintro e w1 ⟨rfl, hb1⟩
        clear hC
        go_wp2
        go_roundw
        case rel => exact ⟨k + 1, by omega, by go_num, HT', hb.trans (hb1.mono hb.size)⟩
        case measure => simp [intOf]; omega
      | false =>
        go_wp2_with fail
        refine hC.mono ?_
        rintro e w1 ⟨rfl, hb1⟩
        clear hC
        go_wp2
        go_ret
        exact ⟨_, rfl, by show _ = _; rw [HF.out trivial]; simp, hb.trans (hb1.mono hb.size)⟩
    · obtain rfl : k = n := by omega
      have HE : Hid ((xss.any fun xs => !fallB xs) = false) := by
        have := HT.out
        rwa [List.take_of_length_le (by rw [HN.out]; exact Nat.le_refl _)] at this
      go_wp2
      go_ret
      exact ⟨_, rfl, by show _ = _; rw [HE.out]; simp, hb⟩

set_option maxHeartbeats 400000 in
theorem layContainsFunc_any (a : Option Addr) (n c : Nat) (xss : List (List Int)) (w : World) (ha : IIs w a n c xss) (h8 : Hid (∀ xs ∈ xss, xs.length ≤ 8)) :
    Calls Try.prog 96 #[.slice a n c, .func (.func 97) #[] #[]] w (RetV w (.bool (xss.any fun xs => !fallB xs))) := by
  go_enter Try.func96, Try.ntmps96
  go_wp2_with fail
  refine (layIndexFunc_any a n c xss _ ha h8).mono ?_
  rintro e w1 ⟨z, rfl, HZ, hb1⟩
  go_wp2
  go_ret
  exact ⟨ret_bool (by rw [← HZ.out]), hb1⟩

set_option maxHeartbeats 400000 in
theorem impl_IsLayered (a : Option Addr) (n c : Nat) (xs : List Int) (w : World) (h : SlI w a n c xs) :
    Calls Try.prog 51 #[.slice a n c] w (RetV w (.bool (layP xs))) := by
  have hI := impl_IsPerm a n c xs w h
  by_cases hp : Perm8 xs
  · rw [decide_eq_true hp] at hI
    have HP : Hid (Perm8 xs) := hp
    have e : layP xs = !((sumPs xs).any fun xs => !fallB xs) := by simp [layP, hp, List.all_eq_not_any_not]
    have H8 : Hid (∀ r ∈ sumPs xs, r.length ≤ 8) := fun r hr => (rows_sumPs hp r hr).2
    have HB : Hid (totL (sumPs xs) ≤ 2097152 ∧ (sumPs xs).length ≤ 2097152) := by have := bound_sumPsP xs; rwa [show sumPsP xs = sumPs xs from if_pos hp] at this
    rw [e]; clear e hp
    go_enter Try.func51, Try.ntmps51
    go_wp2_with fail
    refine hI.mono ?_
    rintro e w1 ⟨rfl, hb1⟩
    go_wp2_with fail
    refine (sumParts_any a n c xs _ (h.below hb1) HP).mono ?_
    rintro e w2 ⟨a1, n1, c1, rfl, ho1, hb2⟩
    go_wp2_with fail
    refine (layContainsFunc_any a1 n1 c1 _ _ (ho1.iisT HB.out) H8).mono ?_
    rintro e w3 ⟨rfl, hb3⟩
    have hb : Below w.heap.size w w3 := (hb1.trans (hb2.mono hb1.size)).trans (hb3.mono (Nat.le_trans hb1.size hb2.size))
    go_wp2
    go_ret
    exact ⟨rfl, hb⟩
  · rw [decide_eq_false hp] at hI
    have e : layP xs = false := by simp [layP, hp]
    rw [e]; clear e hp
    go_enter Try.func51, Try.ntmps51
    go_wp2_with fail
    refine hI.mono ?_
    rintro e w1 ⟨rfl, hb1⟩
    go_wp2
    go_ret
    exact ⟨rfl, hb1⟩
end Go.Proofs.Ytmojniiimondfaa
