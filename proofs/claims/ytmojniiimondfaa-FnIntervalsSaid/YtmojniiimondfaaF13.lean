/- IsSimple and CountIntervals, of the program and of the reference. No condition. -/
import Derived.Test.YtmojniiimondfaaF08
import Derived.Test.YtmojniiimondfaaF12
namespace Go.Proofs.Ytmojniiimondfaa
open Go.RowKit

/-- IsSimple -/
def simB (xs : List Int) : Bool := decide (0 < xs.length) && ((((ivs xs).length : Nat) : Int) == 0)
def simP (xs : List Int) : Bool := decide (Perm8 xs) && simB xs

set_option maxHeartbeats 400000 in
theorem isSimple_any (a : Option Addr) (n c : Nat) (xs : List Int) (w : World) (h : SlI w a n c xs) (hp : Hid (Upb 1048576 xs)) (h8 : n ≤ 8) :
    Calls Try.prog 82 #[.slice a n c] w (RetV w (.bool (simB xs))) := by
  have HN : Hid (xs.length = n) := h.2.1
  by_cases h0 : 0 < n
  · have hg : (0 : Int) < (n : Int) := by omega
    go_enter Try.func82, Try.ntmps82
    go_wp2_with fail
    refine (intervals_any a n c xs _ h hp h8).mono ?_
    rintro e w1 ⟨a1, n1, c1, rfl, ho1, hb1⟩
    have HL : Hid ((ivs xs).length = n1) := ho1.len
    go_wp2
    go_ret
    exact ⟨ret_bool (by unfold simB; rw [HN.out, HL.out]; simp [h0]), hb1⟩
  · have hg : ¬ ((0 : Int) < (n : Int)) := by omega
    go_enter Try.func82, Try.ntmps82
    go_wp2
    go_ret
    exact ⟨ret_bool (by unfold simB; rw [HN.out]; simp [h0]), Below.refl _ _⟩

set_option maxHeartbeats 400000 in
theorem impl_IsSimple (a : Option Addr) (n c : Nat) (xs : List Int) (w : World) (h : SlI w a n c xs) :
    Calls Try.prog 31 #[.slice a n c] w (RetV w (.bool (simP xs))) := by
  have hI := impl_IsPerm a n c xs w h
  by_cases hp : Perm8 xs
  · rw [decide_eq_true hp] at hI
    have HP : Hid (Upb 1048576 xs) := hp.upb
    have h8 : n ≤ 8 := by have h1 := hp.1; have h2 := h.2.1; omega
    have e : simP xs = simB xs := by simp [simP, hp]
    rw [e]; clear e hp
    go_enter Try.func31, Try.ntmps31
    go_wp2_with fail
    refine hI.mono ?_
    rintro e w1 ⟨rfl, hb1⟩
    go_wp2_with fail
    refine (isSimple_any a n c xs _ (h.below hb1) HP h8).mono ?_
    rintro e w2 ⟨rfl, hb2⟩
    go_wp2
    go_ret
    exact ⟨rfl, hb1.trans (hb2.mono hb1.size)⟩
  · rw [decide_eq_false hp] at hI
    have e : simP xs = false := by simp [simP, hp]
    rw [e]; clear e hp
    go_enter Try.func31, Try.ntmps31
    go_wp2_with fail
    refine hI.mono ?_
    rintro e w1 ⟨rfl, hb1⟩
    go_wp2
    go_ret
    exact ⟨rfl, hb1⟩

set_option maxHeartbeats 400000 in
theorem spec_IsSimple (a : Option Addr) (n c : Nat) (xs : List Int) (w : World) (h : SlI w a n c xs) :
    Calls Try.prog 32 #[.slice a n c] w (RetV w (.bool (simP xs))) := by
  have hI := spec_IsPerm a n c xs w h
  have HN : Hid (xs.length = n) := h.2.1
  by_cases hp : Perm8 xs
  · rw [decide_eq_true hp] at hI
    have HE : Hid (ivsP xs = ivs xs) := if_pos hp
    have e : simP xs = simB xs := by simp [simP, hp]
    rw [e]; clear e hp
    by_cases h0 : 0 < n
    · have hg : (0 : Int) < (n : Int) := by omega
      go_enter Try.func32, Try.ntmps32
      go_wp2_with fail
      refine hI.mono ?_
      rintro e w1 ⟨rfl, hb1⟩
      go_wp2_with fail
      refine (spec_IntervalsOf a n c xs _ (h.below hb1)).mono ?_
      rintro e w2 ⟨a1, n1, c1, rfl, ho1, hb2⟩
      have HL : Hid ((ivs xs).length = n1) := by show _ = _; rw [← HE.out]; exact ho1.len
      go_wp2
      go_ret
      exact ⟨ret_bool (by unfold simB; rw [HN.out, HL.out]; simp [h0]), hb1.trans (hb2.mono hb1.size)⟩
    · have hg : ¬ ((0 : Int) < (n : Int)) := by omega
      go_enter Try.func32, Try.ntmps32
      go_wp2_with fail
      refine hI.mono ?_
      rintro e w1 ⟨rfl, hb1⟩
      go_wp2
      go_ret
      exact ⟨ret_bool (by unfold simB; rw [HN.out]; simp [h0]), hb1⟩
  · rw [decide_eq_false hp] at hI
    have e : simP xs = false := by simp [simP, hp]
    rw [e]; clear e hp
    go_enter Try.func32, Try.ntmps32
    go_wp2_with fail
    refine hI.mono ?_
    rintro e w1 ⟨rfl, hb1⟩
    go_wp2
    go_ret
    exact ⟨rfl, hb1⟩

/-- CountIntervals -/
def cntIv (xs : List Int) : Int := if Perm8 xs then (((ivs xs).length : Nat) : Int) + (xs.length : Int) + (if 1 < xs.length then 1 else 0) else -1
theorem length_ivs {xs : List Int} (h : xs.length ≤ 8) : (ivs xs).length ≤ 64 := ivAll_bd rfl h (Nat.le_refl _)

set_option maxHeartbeats 400000 in
theorem impl_CountIntervals (a : Option Addr) (n c : Nat) (xs : List Int) (w : World) (h : SlI w a n c xs) :
    Calls Try.prog 35 #[.slice a n c] w (RetV w (.int .i64 (cntIv xs))) := by
  have hI := impl_IsPerm a n c xs w h
  have HN : Hid (xs.length = n) := h.2.1
  by_cases hp : Perm8 xs
  · rw [decide_eq_true hp] at hI
    have HP : Hid (Upb 1048576 xs) := hp.upb
    have h8 : n ≤ 8 := by have h1 := hp.1; have h2 := h.2.1; omega
    have HL64 : Hid ((ivs xs).length ≤ 64) := length_ivs hp.1
    by_cases h1 : 1 < n
    all_goals
      have e : cntIv xs = (((ivs xs).length : Nat) : Int) + (n : Int) + (if 1 < n then 1 else 0) := by unfold cntIv; rw [if_pos hp, HN.out]
      first | rw [if_pos h1] at e | rw [if_neg h1] at e
      rw [e]; clear e hp
      go_enter Try.func35, Try.ntmps35
      go_wp2_with fail
      refine hI.mono ?_
      rintro e w1 ⟨rfl, hb1⟩
      go_wp2_with fail
      refine (intervals_any a n c xs _ (h.below hb1) HP h8).mono ?_
      rintro e w2 ⟨a1, n1, c1, rfl, ho1, hb2⟩
      have HL : Hid ((ivs xs).length = n1) := ho1.len
      have hn1 : n1 ≤ 64 := by have h1 := HL.out; have h2 := HL64.out; omega
      go_wp2
      go_ret
      exact ⟨ret_int (by have h1 := HL.out; omega), hb1.trans (hb2.mono hb1.size)⟩
  · rw [decide_eq_false hp] at hI
    have e : cntIv xs = -1 := by unfold cntIv; rw [if_neg hp]
    rw [e]; clear e hp
    go_enter Try.func35, Try.ntmps35
    go_wp2_with fail
    refine hI.mono ?_
    rintro e w1 ⟨rfl, hb1⟩
    go_wp2
    go_ret
    exact ⟨rfl, hb1⟩

set_option maxHeartbeats 400000 in
theorem spec_CountIntervals (a : Option Addr) (n c : Nat) (xs : List Int) (w : World) (h : SlI w a n c xs) :
    Calls Try.prog 36 #[.slice a n c] w (RetV w (.int .i64 (cntIv xs))) := by
  have hI := spec_IsPerm a n c xs w h
  have HN : Hid (xs.length = n) := h.2.1
  by_cases hp : Perm8 xs
  · rw [decide_eq_true hp] at hI
    have HE : Hid (ivsP xs = ivs xs) := if_pos hp
    have h8 : n ≤ 8 := by have h1 := hp.1; have h2 := h.2.1; omega
    have HL64 : Hid ((ivs xs).length ≤ 64) := length_ivs hp.1
    by_cases h1 : 1 < n
    all_goals
      have e : cntIv xs = (((ivs xs).length : Nat) : Int) + (n : Int) + (if 1 < n then 1 else 0) := by unfold cntIv; rw [if_pos hp, HN.out]
      first | rw [if_pos h1] at e | rw [if_neg h1] at e
      rw [e]; clear e hp
      go_enter Try.func36, Try.ntmps36
      go_wp2_with fail
      refine hI.mono ?_
      rintro e w1 ⟨rfl, hb1⟩
      go_wp2_with fail
      refine (spec_IntervalsOf a n c xs _ (h.below hb1)).mono ?_
      rintro e w2 ⟨a1, n1, c1, rfl, ho1, hb2⟩
      have HL : Hid ((ivs xs).length = n1) := by show _ = _; rw [← HE.out]; exact ho1.len
      have hn1 : n1 ≤ 64 := by have h1 := HL.out; have h2 := HL64.out; omega
      have hg : (decide ((1 : Int) < (n : Int))) = decide (1 < n) := by rw [decide_eq_decide]; omega
      first | rw [decide_eq_true h1] at hg | rw [decide_eq_false h1] at hg
      go_wp2_with fail
      refine (l1Bit_any _ _).mono ?_
      rintro e w3 ⟨rfl, rfl⟩
      go_wp2
      go_ret
      exact ⟨ret_int (by have h1 := HL.out; simp; omega), hb1.trans (hb2.mono hb1.size)⟩
  · rw [decide_eq_false hp] at hI
    have e : cntIv xs = -1 := by unfold cntIv; rw [if_neg hp]
    rw [e]; clear e hp
    go_enter Try.func36, Try.ntmps36
    go_wp2_with fail
    refine hI.mono ?_
    rintro e w1 ⟨rfl, hb1⟩
    go_wp2
    go_ret
    exact ⟨rfl, hb1⟩
end Go.Proofs.Ytmojniiimondfaa
