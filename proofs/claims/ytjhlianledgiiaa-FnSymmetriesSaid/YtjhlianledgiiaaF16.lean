/- SumOf and SkewSumOf, of the program and of the reference. No condition. -/
import Derived.Test.YtjhlianledgiiaaF15
namespace Go.Proofs.Ytjhlianledgiiaa
open Go.RowKit

def SumOk (xs ys : List Int) : Prop := Perm8 xs ∧ Perm8 ys ∧ xs.length + ys.length ≤ 8
instance (xs ys : List Int) : Decidable (SumOk xs ys) := inferInstanceAs (Decidable (_ ∧ _))
def sumP (sk : Bool) (xs ys : List Int) : List Int := if SumOk xs ys then joinL sk xs ys else []
theorem length_sumP (sk : Bool) (xs ys : List Int) : (sumP sk xs ys).length ≤ 8 := by
  unfold sumP; split
  · rename_i h; rw [length_joinL]; exact h.2.2
  · simp
theorem Perm8.sm {xs : List Int} (h : Perm8 xs) : Sm xs := fun x hx => by have h1 := h.2.1 x hx; have h2 := h.1; omega

set_option maxHeartbeats 800000 in
theorem l4Fit_any (a : Option Addr) (n c : Nat) (xs : List Int) (b : Option Addr) (m d : Nat) (ys : List Int) (w : World) (h : SlI w a n c xs) (hq : SlI w b m d ys) :
    Calls Try.prog 146 #[.slice a n c, .slice b m d] w (RetV w (.bool (decide (SumOk xs ys)))) := by
  have hI := spec_IsPerm a n c xs w h
  have HN : Hid (xs.length = n) := h.2.1
  have HM : Hid (ys.length = m) := hq.2.1
  have hn2 := h.2.2.1
  have hm2 := hq.2.2.1
  by_cases hp : Perm8 xs
  · rw [decide_eq_true hp] at hI
    by_cases hp2 : Perm8 ys
    · have HQ : Hid (Perm8 ys) := hp2
      have HE : Hid (decide (SumOk xs ys) = decide ((n : Int) + (m : Int) ≤ 8)) := by
        show _ = _
        rw [decide_eq_decide]; unfold SumOk
        simp only [hp, hp2, true_and, HN.out, HM.out]; omega
      clear hp hp2
      go_enter Try.func146, Try.ntmps146
      go_wp2_with fail
      refine hI.mono ?_
      rintro e w1 ⟨rfl, hb1⟩
      go_wp2_with fail
      refine (spec_IsPerm b m d ys _ (hq.below hb1)).mono ?_
      rw [decide_eq_true HQ.out]
      rintro e w2 ⟨rfl, hb2⟩
      go_wp2
      go_ret
      exact ⟨ret_bool HE.out.symm, hb1.trans (hb2.mono hb1.size)⟩
    · have HQ : Hid (¬ Perm8 ys) := hp2
      have HE : Hid (decide (SumOk xs ys) = false) := decide_eq_false fun ho => hp2 ho.2.1
      clear hp hp2
      go_enter Try.func146, Try.ntmps146
      go_wp2_with fail
      refine hI.mono ?_
      rintro e w1 ⟨rfl, hb1⟩
      go_wp2_with fail
      refine (spec_IsPerm b m d ys _ (hq.below hb1)).mono ?_
      rw [decide_eq_false HQ.out]
      rintro e w2 ⟨rfl, hb2⟩
      go_wp2
      go_ret
      exact ⟨ret_bool HE.out.symm, hb1.trans (hb2.mono hb1.size)⟩
  · have HE : Hid (decide (SumOk xs ys) = false) := decide_eq_false fun ho => hp ho.1
    rw [decide_eq_false hp] at hI
    clear hp
    go_enter Try.func146, Try.ntmps146
    go_wp2_with fail
    refine hI.mono ?_
    rintro e w1 ⟨rfl, hb1⟩
    go_wp2
    go_ret
    exact ⟨ret_bool HE.out.symm, hb1⟩

end Go.Proofs.Ytjhlianledgiiaa
