/- IntervalsOf of the program; the size of the answer. No condition. -/
import Derived.Test.YtmojniiimondfaaF12
import Derived.Test.YtmojniiimondfaaF18
namespace Go.Proofs.Ytmojniiimondfaa
open Go.RowKit

theorem bound_rows {xss : List (List Int)} {k m : Nat} (h1 : xss.length ≤ k) (h2 : ∀ xs ∈ xss, xs.length ≤ m) (h3 : k * m ≤ 2097152) (h4 : k ≤ 2097152) : totL xss ≤ 2097152 ∧ xss.length ≤ 2097152 := by
  have h := totL_bound h2
  have h5 : xss.length * m ≤ k * m := Nat.mul_le_mul_right m h1
  exact ⟨by omega, by omega⟩
theorem bound_ivsP (xs : List Int) : totL (ivsP xs) ≤ 2097152 ∧ (ivsP xs).length ≤ 2097152 :=
  bound_rows (length_ivsP xs) (fun r hr => by rw [rows2_ivsP xs r hr]; exact Nat.le_refl _) (by omega) (by omega)

set_option maxHeartbeats 400000 in
theorem impl_IntervalsOf (a : Option Addr) (n c : Nat) (xs : List Int) (w : World) (h : SlI w a n c xs) :
    Calls Try.prog 27 #[.slice a n c] w (RetII w (ivsP xs)) := by
  have hI := impl_IsPerm a n c xs w h
  by_cases hp : Perm8 xs
  · rw [decide_eq_true hp] at hI
    have HP : Hid (Upb 1048576 xs) := hp.upb
    have h8 : n ≤ 8 := by have h1 := hp.1; have h2 := h.2.1; omega
    have e : ivsP xs = ivs xs := if_pos hp
    rw [e]; clear e hp
    go_enter Try.func27, Try.ntmps27
    go_wp2_with fail
    refine hI.mono ?_
    rintro e w1 ⟨rfl, hb1⟩
    go_wp2_with fail
    refine (intervals_any a n c xs _ (h.below hb1) HP h8).mono ?_
    rintro e w2 ⟨a1, n1, c1, rfl, ho1, hb2⟩
    go_wp2
    go_ret
    exact ⟨_, _, _, rfl, ho1.mono hb1.size (Nat.le_refl _), hb1.trans (hb2.mono hb1.size)⟩
  · rw [decide_eq_false hp] at hI
    have e : ivsP xs = [] := if_neg hp
    rw [e]; clear e hp
    go_enter Try.func27, Try.ntmps27
    go_wp2_with fail
    refine hI.mono ?_
    rintro e w1 ⟨rfl, hb1⟩
    go_wp2
    go_ret
    exact ⟨_, _, _, rfl, OwnII.nil _ _ _, hb1⟩
end Go.Proofs.Ytmojniiimondfaa
