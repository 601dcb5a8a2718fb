/- SumOf and SkewSumOf, of the program and of the reference. No condition. -/
import Derived.Test.YtmojniiimondfaaF15
namespace Go.Proofs.Ytmojniiimondfaa
open Go.RowKit

def SumOk (xs ys : List Int) : Prop := Perm8 xs ∧ Perm8 ys ∧ xs.length + ys.length ≤ 8
instance (xs ys : List Int) : Decidable (SumOk xs ys) := inferInstanceAs (Decidable (_ ∧ _))
def sumP (sk : Bool) (xs ys : List Int) : List Int := if SumOk xs ys then joinL sk xs ys else []
theorem length_sumP (sk : Bool) (xs ys : List Int) : (sumP sk xs ys).length ≤ 8 := by
  unfold sumP; split
  · rename_i h; rw [length_joinL]; exact h.2.2
  · simp
theorem Perm8.sm {xs : List Int} (h : Perm8 xs) : Sm xs := fun x hx => by have h1 := h.2.1 x hx; have h2 := h.1; omega

set_option maxHeartbeats 800000 in
theorem l4Fit_any (a : Option Addr) (n c : Nat) (xs : List Int) (b : Option Addr) (m d : Nat) (ys : List Int) (w : World) (h : SlI w a n c xs) (hq : SlI w b m d ys) :
    Calls Try.prog 88 #[.slice a n c, .slice b m d] w (RetV w (.bool (decide (SumOk xs ys)))) := by
  have hI := spec_IsPerm a n c xs w h
  have HN : Hid (xs.length = n) := h.2.1
  have HM : Hid (ys.length = m) := hq.2.1
  have hn2 := h.2.2.1
  have hm2 := hq.2.2.1
  by_cases hp : Perm8 xs
  · rw [decide_eq_true hp] at hI
    by_cases hp2 : Perm8 ys
    · have HQ : Hid (Perm8 ys) := hp2
      have HE : Hid (decide (SumOk xs ys) = decide ((n : Int) + (m : Int) ≤ 8)) := by
        show _ = _
        rw [decide_eq_decide]; unfold SumOk
        simp only [hp, hp2, true_and, HN.out, HM.out]; omega
      clear hp hp2
      go_enter Try.func88, Try.ntmps88
      go_wp2_with fail
      refine hI.mono ?_
      rintro e w1 ⟨rfl, hb1⟩
      go_wp2_with fail
      refine (spec_IsPerm b m d ys _ (hq.below hb1)).mono ?_
      rw [decide_eq_true HQ.out]
      rintro e w2 ⟨rfl, hb2⟩
      go_wp2
      go_ret
      exact ⟨ret_bool HE.out.symm, hb1.trans (hb2.mono hb1.size)⟩
    · have HQ : Hid (¬ Perm8 ys) := hp2
      have HE : Hid (decide (SumOk xs ys) = false) := decide_eq_false fun ho => hp2 ho.2.1
      clear hp hp2
      go_enter Try.func88, Try.ntmps88
      go_wp2_with fail
      refine hI.mono ?_
      rintro e w1 ⟨rfl, hb1⟩
      go_wp2_with fail
      refine (spec_IsPerm b m d ys _ (hq.below hb1)).mono ?_
      rw [decide_eq_false HQ.out]
      rintro e w2 ⟨rfl, hb2⟩
      go_wp2
      go_ret
      exact ⟨ret_bool HE.out.symm, hb1.trans (hb2.mono hb1.size)⟩
  · have HE : Hid (decide (SumOk xs ys) = false) := decide_eq_false fun ho => hp ho.1
    rw [decide_eq_false hp] at hI
    clear hp
    go_enter Try.func88, Try.ntmps88
    go_wp2_with fail
    refine hI.mono ?_
    rintro e w1 ⟨rfl, hb1⟩
    go_wp2
    go_ret
    exact ⟨ret_bool HE.out.symm, hb1⟩

set_option maxHeartbeats 1200000 in
theorem limited_any (a : Option Addr) (n c : Nat) (xs : List Int) (b : Option Addr) (m d : Nat) (ys : List Int) (sk : Bool) (w : World) (h : SlI w a n c xs) (hq : SlI w b m d ys) :
    Calls Try.prog 87 #[.slice a n c, .slice b m d, .bool sk] w (RetIB w (sumP sk xs ys) (decide (SumOk xs ys))) := by
  have hI := impl_IsPerm a n c xs w h
  have HN : Hid (xs.length = n) := h.2.1
  have HM : Hid (ys.length = m) := hq.2.1
  have hn2 := h.2.2.1
  have hm2 := hq.2.2.1
  by_cases hp : Perm8 xs
  · rw [decide_eq_true hp] at hI
    by_cases hp2 : Perm8 ys
    · have HQ : Hid (Perm8 ys) := hp2
      have HS1 : Hid (Sm xs) := hp.sm
      have HS2 : Hid (Sm ys) := hp2.sm
      by_cases h8 : n + m ≤ 8
      · have hok : SumOk xs ys := ⟨hp, hp2, by rw [HN.out, HM.out]; exact h8⟩
        have e : sumP sk xs ys = joinL sk xs ys := if_pos hok
        have HL : Hid ((joinL sk xs ys).length = n + m) := by show _ = _; rw [length_joinL, HN.out, HM.out]
        rw [e, decide_eq_true hok]
        clear hok e hp hp2
        have hg : ¬ ((8 : Int) < (n : Int) + (m : Int)) := by omega
        go_enter Try.func87, Try.ntmps87
        go_wp2_with fail
        refine hI.mono ?_
        rintro e w1 ⟨rfl, hb1⟩
        go_wp2_with fail
        refine (impl_IsPerm b m d ys _ (hq.below hb1)).mono ?_
        rw [decide_eq_true HQ.out]
        rintro e w2 ⟨rfl, hb2⟩
        have hB2 := hb1.trans (hb2.mono hb1.size)
        have hB3 := hB2.alloc hB2.size (.cells #[] 3)
        go_wp2_with fail
        refine (sum_any a n c xs b m d ys sk _ (h.below hB3) (hq.below hB3) HS1 HS2 (by omega) (by omega)).mono ?_
        rintro e w3 ⟨a3, n3, c3, rfl, ho3, hb3⟩
        have hn3 : n3 ≤ 8 := by have h1 := ho3.1; have h2 := HL.out; omega
        have hown : OwnI w3 w2.heap.size (some ⟨w2.heap.size, 0, none⟩) 0 0 [] := (OwnI.lit0 w2).below hb3
        have hB4 := hB3.trans (hb3.mono hB3.size)
        have hw : w2.heap.size ≤ w3.heap.size := by have := hb3.size; simp at this; omega
        have hw2 : w.heap.size ≤ w2.heap.size := hB2.size
        go_wp2_with (at_builtin; refine wpList_append_any rfl _ _ rfl w2.heap.size _ _ _ _ rfl hown _ _ _ _ rfl (ho3.sl (by omega)) (by omega) hw ?_)
        intro a' c' w4 g1 _ g2
        go_wp2
        go_ret2
        exact ⟨_, _, _, rfl, by simpa using g1.mono hw2, hB4.trans (g2.mono hw2)⟩
      · have hno : ¬ SumOk xs ys := fun ho => h8 (by rw [← HN.out, ← HM.out]; exact ho.2.2)
        have e : sumP sk xs ys = [] := if_neg hno
        rw [e, decide_eq_false hno]
        clear hno e hp hp2
        have hg : (8 : Int) < (n : Int) + (m : Int) := by omega
        go_enter Try.func87, Try.ntmps87
        go_wp2_with fail
        refine hI.mono ?_
        rintro e w1 ⟨rfl, hb1⟩
        go_wp2_with fail
        refine (impl_IsPerm b m d ys _ (hq.below hb1)).mono ?_
        rw [decide_eq_true HQ.out]
        rintro e w2 ⟨rfl, hb2⟩
        go_wp2
        go_ret2
        exact ⟨_, _, _, rfl, OwnI.nil _ _, hb1.trans (hb2.mono hb1.size)⟩
    · have HQ : Hid (¬ Perm8 ys) := hp2
      have hno : ¬ SumOk xs ys := fun ho => hp2 ho.2.1
      have e : sumP sk xs ys = [] := if_neg hno
      rw [e, decide_eq_false hno]
      clear hno e hp hp2
      go_enter Try.func87, Try.ntmps87
      go_wp2_with fail
      refine hI.mono ?_
      rintro e w1 ⟨rfl, hb1⟩
      go_wp2_with fail
      refine (impl_IsPerm b m d ys _ (hq.below hb1)).mono ?_
      rw [decide_eq_false HQ.out]
      rintro e w2 ⟨rfl, hb2⟩
      go_wp2
      go_ret2
      exact ⟨_, _, _, rfl, OwnI.nil _ _, hb1.trans (hb2.mono hb1.size)⟩
  · have hno : ¬ SumOk xs ys := fun ho => hp ho.1
    have e : sumP sk xs ys = [] := if_neg hno
    rw [e, decide_eq_false hno]
    rw [decide_eq_false hp] at hI
    clear hno e hp
    go_enter Try.func87, Try.ntmps87
    go_wp2_with fail
    refine hI.mono ?_
    rintro e w1 ⟨rfl, hb1⟩
    go_wp2
    go_ret2
    exact ⟨_, _, _, rfl, OwnI.nil _ _, hb1⟩

set_option maxHeartbeats 400000 in
theorem impl_SumOf (a : Option Addr) (n c : Nat) (xs : List Int) (b : Option Addr) (m d : Nat) (ys : List Int) (w : World) (h : SlI w a n c xs) (hq : SlI w b m d ys) :
    Calls Try.prog 41 #[.slice a n c, .slice b m d] w (RetIB w (sumP false xs ys) (decide (SumOk xs ys))) := by
  go_enter Try.func41, Try.ntmps41
  go_wp2_with fail
  refine (limited_any a n c xs b m d ys false _ h hq).mono ?_
  rintro e w1 ⟨a1, n1, c1, rfl, ho1, hb1⟩
  go_wp2
  go_ret2
  exact ⟨_, _, _, rfl, ho1, hb1⟩

set_option maxHeartbeats 400000 in
theorem spec_SumOf (a : Option Addr) (n c : Nat) (xs : List Int) (b : Option Addr) (m d : Nat) (ys : List Int) (w : World) (h : SlI w a n c xs) (hq : SlI w b m d ys) :
    Calls Try.prog 42 #[.slice a n c, .slice b m d] w (RetIB w (sumP false xs ys) (decide (SumOk xs ys))) := by
  have hI := l4Fit_any a n c xs b m d ys w h hq
  by_cases hok : SumOk xs ys
  · have e : sumP false xs ys = joinL false xs ys := if_pos hok
    have HS1 : Hid (Sm xs) := hok.1.sm
    have HS2 : Hid (Sm ys) := hok.2.1.sm
    have h1 : n ≤ 8 := by have h1 := hok.1.1; have h2 := h.2.1; omega
    have h2 : m ≤ 8 := by have h1 := hok.2.1.1; have h2 := hq.2.1; omega
    rw [e]
    rw [decide_eq_true hok] at hI ⊢
    clear hok e
    go_enter Try.func42, Try.ntmps42
    go_wp2_with fail
    refine hI.mono ?_
    rintro e w1 ⟨rfl, hb1⟩
    go_wp2_with fail
    refine (l4Join_any a n c xs b m d ys false _ (h.below hb1) (hq.below hb1) HS1 HS2 (by omega) (by omega)).mono ?_
    rintro e w2 ⟨a2, n2, c2, rfl, ho2, hb2⟩
    go_wp2
    go_ret2
    exact ⟨_, _, _, rfl, ho2.mono hb1.size, hb1.trans (hb2.mono hb1.size)⟩
  · have e : sumP false xs ys = [] := if_neg hok
    rw [e]
    rw [decide_eq_false hok] at hI ⊢
    clear hok e
    go_enter Try.func42, Try.ntmps42
    go_wp2_with fail
    refine hI.mono ?_
    rintro e w1 ⟨rfl, hb1⟩
    go_wp2
    go_ret2
    exact ⟨_, _, _, rfl, (OwnI.lit0 _).mono hb1.size, hb1.alloc hb1.size _⟩

set_option maxHeartbeats 400000 in
theorem impl_SkewSumOf (a : Option Addr) (n c : Nat) (xs : List Int) (b : Option Addr) (m d : Nat) (ys : List Int) (w : World) (h : SlI w a n c xs) (hq : SlI w b m d ys) :
    Calls Try.prog 43 #[.slice a n c, .slice b m d] w (RetIB w (sumP true xs ys) (decide (SumOk xs ys))) := by
  go_enter Try.func43, Try.ntmps43
  go_wp2_with fail
  refine (limited_any a n c xs b m d ys true _ h hq).mono ?_
  rintro e w1 ⟨a1, n1, c1, rfl, ho1, hb1⟩
  go_wp2
  go_ret2
  exact ⟨_, _, _, rfl, ho1, hb1⟩

set_option maxHeartbeats 400000 in
theorem spec_SkewSumOf (a : Option Addr) (n c : Nat) (xs : List Int) (b : Option Addr) (m d : Nat) (ys : List Int) (w : World) (h : SlI w a n c xs) (hq : SlI w b m d ys) :
    Calls Try.prog 44 #[.slice a n c, .slice b m d] w (RetIB w (sumP true xs ys) (decide (SumOk xs ys))) := by
  have hI := l4Fit_any a n c xs b m d ys w h hq
  by_cases hok : SumOk xs ys
  · have e : sumP true xs ys = joinL true xs ys := if_pos hok
    have HS1 : Hid (Sm xs) := hok.1.sm
    have HS2 : Hid (Sm ys) := hok.2.1.sm
    have h1 : n ≤ 8 := by have h1 := hok.1.1; have h2 := h.2.1; omega
    have h2 : m ≤ 8 := by have h1 := hok.2.1.1; have h2 := hq.2.1; omega
    rw [e]
    rw [decide_eq_true hok] at hI ⊢
    clear hok e
    go_enter Try.func44, Try.ntmps44
    go_wp2_with fail
    refine hI.mono ?_
    rintro e w1 ⟨rfl, hb1⟩
    go_wp2_with fail
    refine (l4Join_any a n c xs b m d ys true _ (h.below hb1) (hq.below hb1) HS1 HS2 (by omega) (by omega)).mono ?_
    rintro e w2 ⟨a2, n2, c2, rfl, ho2, hb2⟩
    go_wp2
    go_ret2
    exact ⟨_, _, _, rfl, ho2.mono hb1.size, hb1.trans (hb2.mono hb1.size)⟩
  · have e : sumP true xs ys = [] := if_neg hok
    rw [e]
    rw [decide_eq_false hok] at hI ⊢
    clear hok e
    go_enter Try.func44, Try.ntmps44
    go_wp2_with fail
    refine hI.mono ?_
    rintro e w1 ⟨rfl, hb1⟩
    go_wp2
    go_ret2
    exact ⟨_, _, _, rfl, (OwnI.lit0 _).mono hb1.size, hb1.alloc hb1.size _⟩
end Go.Proofs.Ytmojniiimondfaa
