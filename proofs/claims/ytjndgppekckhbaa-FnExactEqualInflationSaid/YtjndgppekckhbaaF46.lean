/- Comparisons of lists of lists; EqualInflation's walks, of the program and of the reference. Conditions: the lengths are at most 2^21. -/
import Derived.Test.YtjndgppekckhbaaF18
import Derived.Test.YtjndgppekckhbaaF05
namespace Go.Proofs.Ytjndgppekckhbaa
open Go.RowKit

set_option maxHeartbeats 400000 in
theorem l6Same_any (a b : Option Addr) (n m c d : Nat) (xss yss : List (List Int)) (w : World) (ha : IIs w a n c xss) (hb : IIs w b m d yss) :
    Calls Try.prog 61 #[.slice a n c, .slice b m d] w fun e w' => e = .returned (.bool (decide (xss = yss))) ∧ Quiet w w' := by
  have HN : Hid (xss.length = n) := ha.2.1
  have HM : Hid (yss.length = m) := hb.2.1
  have hnb := ha.2.2.1
  have hmb := hb.2.2.1
  by_cases hnm : n = m
  · subst hnm
    go_enter Try.func61, Try.ntmps61
    go_wp2
    go_loopw [5] (fun i wr => ∃ k : Nat, k ≤ n ∧ i = .int .i64 k ∧ Hid (xss.take k = yss.take k) ∧ Quiet w wr) (fun i _ => n - (intOf i).toNat)
    case atStart => exact ⟨0, Nat.zero_le _, rfl, by simp [Hid], Quiet.refl _⟩
    case round =>
      obtain ⟨k, hk, rfl, HT, hq⟩ := hrel
      by_cases hlt : k < n
      · obtain ⟨ab, ao, ra, rn, rc, xs, rfl, hx, hr, HX⟩ := (ha.quiet hq).at hlt
        obtain ⟨bb, bo, sa, sn, sc, ys, rfl, hy, hs, HY⟩ := (hb.quiet hq).at hlt
        obtain ⟨bv, hbv⟩ : ∃ bv, bv = decide (xs = ys) := ⟨_, rfl⟩
        have c1 : ∀ q, Calls Try.prog 60 #[.slice ra rn rc, .slice sa sn sc] (wr.drewN q) (fun e w' => e = .returned (.bool bv) ∧ ∃ m, w' = wr.drewN m) := fun q => (l2Same_any ra sa rn sn rc sc xs ys (wr.drewN q) (hr.1.drewN q) (hs.1.drewN q) hr.2.1 hs.2.1 hr.2.2.1 hs.2.2.1).mono fun _ _ ⟨h1, h2⟩ => ⟨by rw [h1, hbv], ((Quiet.refl wr).drewN q).trans h2⟩
        have HS : Hid (bv = true → xss.take (k + 1) = yss.take (k + 1)) := by
          intro h
          rw [h] at hbv
          have e : xs = ys := by simpa using hbv.symm
          exact take_eq_succ HT.out HX.out HY.out e
        have HF : Hid (bv = false → xss ≠ yss) := by
          intro h e
          rw [h] at hbv
          have h1 := HX.out; have h2 := HY.out
          rw [e, h2] at h1
          have : xs = ys := (Option.some.inj h1).symm
          simp [this] at hbv
        clear hr hs hbv
        cases bv
        · go_wp2
          go_quiet ((go_at_call 60; exact c1 _))
          go_wp2
          go_ret
          exact ⟨ret_bool (decide_eq_false (HF.out trivial)).symm, hq.drewN _⟩
        · go_wp2
          go_quiet ((go_at_call 60; exact c1 _))
          go_wp2
          go_roundw
          case rel => exact ⟨k + 1, by omega, by go_num, HS.out trivial, hq.drewN _⟩
          case measure => simp [intOf]; omega
      · obtain rfl : k = n := by omega
        have HE : Hid (xss = yss) := by
          have h1 := HT.out
          rwa [List.take_of_length_le (by rw [HN.out]; exact Nat.le_refl _), List.take_of_length_le (by rw [HM.out]; exact Nat.le_refl _)] at h1
        go_wp2
        go_ret
        exact ⟨ret_bool (decide_eq_true HE.out).symm, hq⟩
  · have hf : Hid (xss ≠ yss) := fun h => hnm (by rw [← HN.out, ← HM.out, h])
    go_enter Try.func61, Try.ntmps61
    go_wp2
    go_ret
    exact ⟨ret_bool (decide_eq_false hf.out).symm, Quiet.refl _⟩

set_option maxHeartbeats 400000 in
theorem equalFunc_any (a b : Option Addr) (n m c d : Nat) (xss yss : List (List Int)) (w : World) (ha : IIs w a n c xss) (hb : IIs w b m d yss) :
    Calls Try.prog 64 #[.slice a n c, .slice b m d, .func (.func 63) #[] #[]] w fun e w' => e = .returned (.bool (decide (xss = yss))) ∧ Quiet w w' := by
  have HN : Hid (xss.length = n) := ha.2.1
  have HM : Hid (yss.length = m) := hb.2.1
  have hnb := ha.2.2.1
  have hmb := hb.2.2.1
  by_cases hnm : n = m
  · subst hnm
    go_enter Try.func64, Try.ntmps64
    go_wp2
    go_loopw [17] (fun i wr => ∃ k : Nat, k ≤ n ∧ i = .int .i64 k ∧ Hid (xss.take k = yss.take k) ∧ Quiet w wr) (fun i _ => n - (intOf i).toNat)
    case atStart => exact ⟨0, Nat.zero_le _, rfl, by simp [Hid], Quiet.refl _⟩
    case round =>
      obtain ⟨k, hk, rfl, HT, hq⟩ := hrel
      by_cases hlt : k < n
      · obtain ⟨ab, ao, ra, rn, rc, xs, rfl, hx, hr, HX⟩ := (ha.quiet hq).at hlt
        obtain ⟨bb, bo, sa, sn, sc, ys, rfl, hy, hs, HY⟩ := (hb.quiet hq).at hlt
        obtain ⟨bv, hbv⟩ : ∃ bv, bv = decide (xs = ys) := ⟨_, rfl⟩
        have c1 := slicesEqual_any ra sa rn sn rc sc xs ys wr hr.1 hs.1 hr.2.1 hs.2.1 hr.2.2.1 hs.2.2.1
        rw [← hbv] at c1
        have HS : Hid (bv = true → xss.take (k + 1) = yss.take (k + 1)) := by
          intro h
          rw [h] at hbv
          have e : xs = ys := by simpa using hbv.symm
          exact take_eq_succ HT.out HX.out HY.out e
        have HF : Hid (bv = false → xss ≠ yss) := by
          intro h e
          rw [h] at hbv
          have h1 := HX.out; have h2 := HY.out
          rw [e, h2] at h1
          have : xs = ys := (Option.some.inj h1).symm
          simp [this] at hbv
        clear hr hs hbv
        cases bv
        · go_wp2_with fail
          refine c1.mono ?_
          rintro e w1 ⟨rfl, hq1⟩
          go_wp2
          go_ret
          exact ⟨ret_bool (decide_eq_false (HF.out trivial)).symm, hq.trans hq1⟩
        · go_wp2_with fail
          refine c1.mono ?_
          rintro e w1 ⟨rfl, hq1⟩
          go_wp2
          go_roundw
          case rel => exact ⟨k + 1, by omega, by go_num, HS.out trivial, hq.trans hq1⟩
          case measure => simp [intOf]; omega
      · obtain rfl : k = n := by omega
        have HE : Hid (xss = yss) := by
          have h1 := HT.out
          rwa [List.take_of_length_le (by rw [HN.out]; exact Nat.le_refl _), List.take_of_length_le (by rw [HM.out]; exact Nat.le_refl _)] at h1
        go_wp2
        go_ret
        exact ⟨ret_bool (decide_eq_true HE.out).symm, hq⟩
  · have hf : Hid (xss ≠ yss) := fun h => hnm (by rw [← HN.out, ← HM.out, h])
    go_enter Try.func64, Try.ntmps64
    go_wp2
    go_ret
    exact ⟨ret_bool (decide_eq_false hf.out).symm, Quiet.refl _⟩

/-- An inflation's value: its root and its parts. -/
def infV (a : Option Addr) (n c : Nat) (b : Option Addr) (m d : Nat) : Value := .agg #[.slice a n c, .slice b m d]

set_option maxHeartbeats 400000 in
theorem spec_EqualInflation (a : Option Addr) (n c : Nat) (xs : List Int) (b : Option Addr) (m d : Nat) (xss : List (List Int)) (a' : Option Addr) (n' c' : Nat) (ys : List Int) (b' : Option Addr) (m' d' : Nat) (yss : List (List Int)) (w : World)
    (h1 : SlI w a n c xs) (h2 : IIs w b m d xss) (h3 : SlI w a' n' c' ys) (h4 : IIs w b' m' d' yss) :
    Calls Try.prog 28 #[infV a n c b m d, infV a' n' c' b' m' d'] w (RetV w (.bool (decide (xs = ys) && decide (xss = yss)))) := by
  unfold infV
  have hbx := below_alloc w (.cells #[.slice a n c, .slice b m d] 34)
  have hby := hbx.alloc hbx.size (.cells #[.slice a' n' c', .slice b' m' d'] 34)
  have c1 := l2Same_any a a' n n' c c' xs ys _ (h1.below hby).1 (h3.below hby).1 h1.2.1 h3.2.1 h1.2.2.1 h3.2.2.1
  have c2 := fun q => l6Same_any b b' m m' d d' xss yss (World.drewN ((w.alloc (.cells #[.slice a n c, .slice b m d] 34)).alloc (.cells #[.slice a' n' c', .slice b' m' d'] 34)) q) (h2.below (below_drewN' hby q)) (h4.below (below_drewN' hby q))
  have C2 := Lib.hid c2
  clear c2 h1 h2 h3 h4
  generalize decide (xs = ys) = u at *
  generalize decide (xss = yss) = v at *
  cases u
  · go_enter Try.func28, Try.ntmps28
    go_wp2_with fail
    refine c1.mono ?_
    rintro e w1 ⟨rfl, q, rfl⟩
    clear c1
    go_wp2
    go_ret
    exact ⟨rfl, below_drewN' hby q⟩
  · go_enter Try.func28, Try.ntmps28
    go_wp2_with fail
    refine c1.mono ?_
    rintro e w1 ⟨rfl, q, rfl⟩
    clear c1
    go_wp2_with fail
    refine (C2.out q).mono ?_
    rintro e w1 ⟨rfl, hq⟩
    go_wp2
    go_ret
    exact ⟨ret_bool (by simp), (below_drewN' hby q).trans (hq.below _)⟩

set_option maxHeartbeats 400000 in
theorem impl_EqualInflation (a : Option Addr) (n c : Nat) (xs : List Int) (b : Option Addr) (m d : Nat) (xss : List (List Int)) (a' : Option Addr) (n' c' : Nat) (ys : List Int) (b' : Option Addr) (m' d' : Nat) (yss : List (List Int)) (w : World)
    (h1 : SlI w a n c xs) (h2 : IIs w b m d xss) (h3 : SlI w a' n' c' ys) (h4 : IIs w b' m' d' yss) :
    Calls Try.prog 30 #[infV a n c b m d, infV a' n' c' b' m' d'] w (RetV w (.bool (decide (xs = ys) && decide (xss = yss)))) := by
  unfold infV
  have hbx := below_alloc w (.cells #[.slice a n c, .slice b m d] 34)
  have hby := hbx.alloc hbx.size (.cells #[.slice a' n' c', .slice b' m' d'] 34)
  have c1 := slicesEqual_any a a' n n' c c' xs ys _ (h1.below hby).1 (h3.below hby).1 h1.2.1 h3.2.1 h1.2.2.1 h3.2.2.1
  have c2 := fun q => equalFunc_any b b' m m' d d' xss yss (World.drewN ((w.alloc (.cells #[.slice a n c, .slice b m d] 34)).alloc (.cells #[.slice a' n' c', .slice b' m' d'] 34)) q) (h2.below (below_drewN' hby q)) (h4.below (below_drewN' hby q))
  have C2 := Lib.hid c2
  clear c2 h1 h2 h3 h4
  generalize decide (xs = ys) = u at *
  generalize decide (xss = yss) = v at *
  cases u
  · go_enter Try.func30, Try.ntmps30
    go_wp2_with fail
    refine c1.mono ?_
    rintro e w1 ⟨rfl, q, rfl⟩
    clear c1
    go_wp2
    go_ret
    exact ⟨rfl, below_drewN' hby q⟩
  · go_enter Try.func30, Try.ntmps30
    go_wp2_with fail
    refine c1.mono ?_
    rintro e w1 ⟨rfl, q, rfl⟩
    clear c1
    go_wp2_with fail
    refine (C2.out q).mono ?_
    rintro e w1 ⟨rfl, hq⟩
    go_wp2
    go_ret
    exact ⟨ret_bool (by simp), (below_drewN' hby q).trans (hq.below _)⟩

end Go.Proofs.Ytjndgppekckhbaa
