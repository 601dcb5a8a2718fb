/- BeforePerm, of the program and of the reference. No condition. -/
import Derived.Test.YtjhlianledgiiaaF10
namespace Go.Proofs.Ytjhlianledgiiaa
open Go.RowKit

set_option maxHeartbeats 800000 in
theorem l2Before_any (a b : Option Addr) (n m c d : Nat) (xs ys : List Int) (w : World) (h : SlI w a n c xs) (hq : SlI w b m d ys) :
    Calls Try.prog 110 #[.slice a n c, .slice b m d] w fun e w' => e = .returned (.bool (decide (cmpP xs ys < 0))) ∧ Quiet w w' := by
  obtain ⟨ha, hn, hnb, _⟩ := h
  obtain ⟨hb, hm, hmb, _⟩ := hq
  have HN := Lib.hid hn; clear hn
  have HM := Lib.hid hm; clear hm
  by_cases hnm : n = m
  · subst hnm
    have HP : Hid (cmpP xs ys = cmpL xs ys) := by
      show _ = _
      have h1 := HN.out; have h2 := HM.out
      unfold cmpP; rw [if_neg (by omega), if_neg (by omega)]
    go_enter Try.func110, Try.ntmps110
    go_wp2
    go_loopw [5] (fun i wr => ∃ k : Nat, k ≤ n ∧ i = .int .i64 k ∧ Hid (xs.take k = ys.take k) ∧ Quiet w wr) (fun i _ => n - (intOf i).toNat)
    case atStart => exact ⟨0, Nat.zero_le _, rfl, by simp [Hid], Quiet.refl _⟩
    case round =>
      obtain ⟨k, hk, rfl, ht, hqq⟩ := hrel
      have ha' := ha.quiet hqq
      have hb' := hb.quiet hqq
      by_cases hlt : k < n
      · obtain ⟨ab, ao, x, rfl, hx, HX⟩ := ha'.at (i := k) (by rw [HN.out]; exact hlt)
        obtain ⟨bb, bo, y, rfl, hy, HY⟩ := hb'.at (i := k) (by rw [HM.out]; exact hlt)
        have e := cmpL_at ht.out HX.out HY.out
        rw [← HP.out] at e
        by_cases hxy : x = y
        · have ht' : Hid (xs.take (k + 1) = ys.take (k + 1)) := by
            have h3 := HY.out
            rw [← hxy] at h3
            exact take_eq_succ' ht.out HX.out h3
          clear e
          go_wp2_with fail
          go_quiet (fail)
          go_wp2
          go_roundw
          case rel => exact ⟨k + 1, by omega, by go_num, ht', hqq.drewN _⟩
          case measure => simp [intOf]; omega
        · have E : Hid (decide (cmpP xs ys < 0) = decide (x < y)) := by
            show _ = _
            rw [e]
            by_cases h1 : x < y
            · rw [if_pos h1]; simp [h1]
            · rw [if_neg h1, if_pos (by omega)]; simp [h1]
          clear e
          have hne : (x != y) = true := by simp [hxy]
          go_wp2_with fail
          go_quiet (fail)
          go_wp2_with fail
          go_quiet (fail)
          go_wp2
          go_ret
          exact ⟨ret_bool (by rw [E.out]), (hqq.drewN _).drewN _⟩
      · have E : Hid (decide (cmpP xs ys < 0) = false) := by
          show _ = _
          have h1 := HN.out; have h2 := HM.out
          rw [HP.out, cmpL_drop ht.out (by omega) (by omega), dropNil (l := ys) (by omega), dropNil (l := xs) (by omega)]; rfl
        go_wp2
        go_ret
        exact ⟨ret_bool E.out.symm, hqq⟩
  · have E : Hid (decide (cmpP xs ys < 0) = decide ((n : Int) < (m : Int))) := by
      show _ = _
      have h1 := HN.out; have h2 := HM.out
      unfold cmpP
      by_cases h3 : n < m
      · rw [if_pos (by omega)]; simp [h3]
      · rw [if_neg (by omega), if_pos (by omega)]; simp [h3]
    go_enter Try.func110, Try.ntmps110
    go_wp2
    go_ret
    exact ⟨ret_bool (by rw [E.out]; simp), Quiet.refl _⟩

/-- BeforePerm -/
def befP (xs ys : List Int) : Bool := decide (Perm8 xs) && (decide (Perm8 ys) && decide (cmpP xs ys < 0))
theorem cmpL_cases (xs ys : List Int) : cmpL xs ys = -1 ∨ cmpL xs ys = 0 ∨ cmpL xs ys = 1 := by
  induction xs generalizing ys with
  | nil => cases ys <;> simp [cmpL]
  | cons x xs ih =>
    cases ys with
    | nil => simp [cmpL]
    | cons y ys =>
      simp only [cmpL]
      split
      · simp
      · split
        · simp
        · exact ih ys
theorem cmpP_cases (xs ys : List Int) : cmpP xs ys = -1 ∨ cmpP xs ys = 0 ∨ cmpP xs ys = 1 := by
  unfold cmpP
  split
  · simp
  · split
    · simp
    · exact cmpL_cases xs ys

set_option maxHeartbeats 800000 in
theorem spec_BeforePerm (a : Option Addr) (n c : Nat) (xs : List Int) (b : Option Addr) (m d : Nat) (ys : List Int) (w : World) (h : SlI w a n c xs) (hq : SlI w b m d ys) :
    Calls Try.prog 64 #[.slice a n c, .slice b m d] w (RetV w (.bool (befP xs ys))) := by
  have hI := spec_IsPerm a n c xs w h
  by_cases hp : Perm8 xs
  · rw [decide_eq_true hp] at hI
    by_cases hp2 : Perm8 ys
    · have HE : Hid (befP xs ys = decide (cmpP xs ys < 0)) := by show _ = _; simp [befP, hp, hp2]
      have HQ : Hid (Perm8 ys) := hp2
      clear hp hp2
      go_enter Try.func64, Try.ntmps64
      go_wp2_with fail
      refine hI.mono ?_
      rintro e w1 ⟨rfl, hb1⟩
      go_wp2_with fail
      refine (spec_IsPerm b m d ys _ (hq.below hb1)).mono ?_
      rw [decide_eq_true HQ.out]
      rintro e w2 ⟨rfl, hb2⟩
      have hB := hb1.trans (hb2.mono hb1.size)
      go_wp2_with fail
      refine (l2Before_any a b n m c d xs ys _ (h.below hB) (hq.below hB)).mono ?_
      rintro e w3 ⟨rfl, hq3⟩
      go_wp2
      go_ret
      exact ⟨ret_bool HE.out.symm, hB.trans (hq3.below _)⟩
    · have HE : Hid (befP xs ys = false) := by show _ = _; simp [befP, hp2]
      have HQ : Hid (¬ Perm8 ys) := hp2
      clear hp hp2
      go_enter Try.func64, Try.ntmps64
      go_wp2_with fail
      refine hI.mono ?_
      rintro e w1 ⟨rfl, hb1⟩
      go_wp2_with fail
      refine (spec_IsPerm b m d ys _ (hq.below hb1)).mono ?_
      rw [decide_eq_false HQ.out]
      rintro e w2 ⟨rfl, hb2⟩
      have hB := hb1.trans (hb2.mono hb1.size)
      go_wp2
      go_ret
      exact ⟨ret_bool HE.out.symm, hB⟩
  · have HE : Hid (befP xs ys = false) := by show _ = _; simp [befP, hp]
    rw [decide_eq_false hp] at hI
    clear hp
    go_enter Try.func64, Try.ntmps64
    go_wp2_with fail
    refine hI.mono ?_
    rintro e w1 ⟨rfl, hb1⟩
    go_wp2
    go_ret
    exact ⟨ret_bool HE.out.symm, hb1⟩

set_option maxHeartbeats 800000 in
theorem impl_BeforePerm (a : Option Addr) (n c : Nat) (xs : List Int) (b : Option Addr) (m d : Nat) (ys : List Int) (w : World) (h : SlI w a n c xs) (hq : SlI w b m d ys) :
    Calls Try.prog 63 #[.slice a n c, .slice b m d] w (RetV w (.bool (befP xs ys))) := by
  have hI := impl_IsPerm a n c xs w h
  by_cases hp : Perm8 xs
  · rw [decide_eq_true hp] at hI
    by_cases hp2 : Perm8 ys
    · have HE : Hid (befP xs ys = decide (cmpP xs ys < 0)) := by show _ = _; simp [befP, hp, hp2]
      have HQ : Hid (Perm8 ys) := hp2
      clear hp hp2
      go_enter Try.func63, Try.ntmps63
      go_wp2_with fail
      refine hI.mono ?_
      rintro e w1 ⟨rfl, hb1⟩
      go_wp2_with fail
      refine (impl_IsPerm b m d ys _ (hq.below hb1)).mono ?_
      rw [decide_eq_true HQ.out]
      rintro e w2 ⟨rfl, hb2⟩
      have hB := hb1.trans (hb2.mono hb1.size)
      go_wp2_with fail
      refine (comparePerms_any a b n m c d xs ys _ (h.below hB) (hq.below hB)).mono ?_
      rintro e w3 ⟨rfl, hb3⟩
      go_wp2
      go_ret
      exact ⟨ret_bool HE.out.symm, hB.trans (hb3.mono hB.size)⟩
    · have HE : Hid (befP xs ys = false) := by show _ = _; simp [befP, hp2]
      have HQ : Hid (¬ Perm8 ys) := hp2
      clear hp hp2
      go_enter Try.func63, Try.ntmps63
      go_wp2_with fail
      refine hI.mono ?_
      rintro e w1 ⟨rfl, hb1⟩
      go_wp2_with fail
      refine (impl_IsPerm b m d ys _ (hq.below hb1)).mono ?_
      rw [decide_eq_false HQ.out]
      rintro e w2 ⟨rfl, hb2⟩
      have hB := hb1.trans (hb2.mono hb1.size)
      go_wp2
      go_ret
      exact ⟨ret_bool HE.out.symm, hB⟩
  · have HE : Hid (befP xs ys = false) := by show _ = _; simp [befP, hp]
    rw [decide_eq_false hp] at hI
    clear hp
    go_enter Try.func63, Try.ntmps63
    go_wp2_with fail
    refine hI.mono ?_
    rintro e w1 ⟨rfl, hb1⟩
    go_wp2
    go_ret
    exact ⟨ret_bool HE.out.symm, hb1⟩
end Go.Proofs.Ytjhlianledgiiaa
