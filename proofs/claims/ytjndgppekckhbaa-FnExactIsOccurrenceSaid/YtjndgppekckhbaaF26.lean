/- IsOccurrence: the walks of the exported functions. No condition. -/
import Derived.Test.YtjndgppekckhbaaF25
namespace Go.Proofs.Ytjndgppekckhbaa
open Go.RowKit

def occB (P Q L : List Int) : Bool := decide (Perm8 P) && decide (Perm8 Q) && incB P.length L L.length && decide (pat (atP P L) = Q)

set_option maxHeartbeats 1000000 in
theorem impl_IsOccurrence (a : Option Addr) (n c : Nat) (P : List Int) (e0 : Option Addr) (qn qc : Nat) (Q : List Int) (b : Option Addr) (m d : Nat) (L : List Int) (w : World) (h : SlI w a n c P) (hQ : SlI w e0 qn qc Q) (hq : SlI w b m d L) :
    Calls Try.prog 35 #[.slice a n c, .slice e0 qn qc, .slice b m d] w (RetV w (.bool (occB P Q L))) := by
  have HN : Hid (P.length = n) := h.2.1
  have HM : Hid (L.length = m) := hq.2.1
  have hmb := hq.2.2.1
  have hnb := h.2.2.1
  have hI := impl_IsPerm a n c P w h
  by_cases hp : Perm8 P
  · rw [decide_eq_true hp] at hI
    by_cases hp2 : Perm8 Q
    · have HOC : Hid (occB P Q L = (incB n L m && decide (pat (atP P L) = Q))) := by show _ = _; unfold occB; rw [decide_eq_true hp, decide_eq_true hp2, HN.out, HM.out]; simp
      have HD2 : Hid (decide (Perm8 Q) = true) := decide_eq_true hp2
      clear hp hp2
      go_enter Try.func35, Try.ntmps35
      go_wp2_with fail
      refine hI.mono ?_
      rintro e w1 ⟨rfl, hb1⟩
      have hI2 := impl_IsPerm e0 qn qc Q w1 (hQ.below hb1)
      rw [HD2.out] at hI2
      clear hI
      go_wp2_with fail
      refine hI2.mono ?_
      rintro e w2 ⟨rfl, hb2⟩
      clear hI2
      have hbb := hb1.trans (hb2.mono hb1.size)
      clear hb1 hb2
      have hL2 := hq.below hbb
      go_wp2
      go_loop [7, 8, 19] (fun _ _ i => ∃ k : Nat, k ≤ m ∧ i = .int .i64 k ∧ Hid (incB n L k = true)) (fun _ _ i => m - (intOf i).toNat)
      case atStart => exact ⟨0, Nat.zero_le _, rfl, rfl⟩
      case round =>
        obtain ⟨k, hk, rfl, HI⟩ := hrel
        by_cases hlt : k < m
        · obtain ⟨bb, bo, y, rfl, hy, HY⟩ := hL2.1.at (i := k) (by rw [HM.out]; exact hlt)
          have HS : Hid (incB n L (k + 1) = (decide (1 ≤ y ∧ y ≤ (n : Int)) && (decide (k = 0) || decide (L.getD (k - 1) 0 < y)))) := by
            show _ = _; rw [incB_succ HY.out, HI.out]; rfl
          by_cases hy1 : y < 1
          · have HF : Hid (incB n L m = false) := incB_false (k := k + 1) (by omega) (by rw [HS.out, decide_eq_false (by omega)]; rfl)
            go_wp2
            go_ret
            exact ⟨ret_bool (by rw [HOC.out, HF.out]; rfl), hbb⟩
          · by_cases hy2 : (n : Int) < y
            · have HF : Hid (incB n L m = false) := incB_false (k := k + 1) (by omega) (by rw [HS.out, decide_eq_false (by omega)]; rfl)
              go_wp2
              go_ret
              exact ⟨ret_bool (by rw [HOC.out, HF.out]; rfl), hbb⟩
            · by_cases hk0 : 0 < k
              · obtain ⟨j, hj⟩ : ∃ j, k = j + 1 := ⟨k - 1, by omega⟩
                have ej : (k : Int) - 1 = (j : Int) := by omega
                obtain ⟨z, hz, HZ⟩ := hL2.1.cell (i := j) (by rw [HM.out]; omega)
                have HZ' : Hid (L.getD (k - 1) 0 = z) := by show _ = _; rw [show k - 1 = j by omega]; exact getD_of HZ.out
                clear hj
                by_cases hzy : z < y
                · have HI' : Hid (incB n L (k + 1) = true) := by show _ = _; rw [HS.out, HZ'.out, decide_eq_true (by omega), decide_eq_true hzy]; simp
                  go_wp2
                  go_round
                  case rel => exact ⟨k + 1, by omega, by go_num, HI'⟩
                  case measure => simp [intOf]; omega
                · have HF : Hid (incB n L m = false) := incB_false (k := k + 1) (by omega) (by rw [HS.out, HZ'.out, decide_eq_false hzy, decide_eq_false (by omega : ¬ k = 0)]; simp)
                  go_wp2
                  go_ret
                  exact ⟨ret_bool (by rw [HOC.out, HF.out]; rfl), hbb⟩
              · have HI' : Hid (incB n L (k + 1) = true) := by show _ = _; rw [HS.out, decide_eq_true (by omega), decide_eq_true (by omega : k = 0)]; rfl
                go_wp2
                go_round
                case rel => exact ⟨k + 1, by omega, by go_num, HI'⟩
                case measure => simp [intOf]; omega
        · have hkm : k = m := by omega
          subst hkm
          have HPl : Hid (Pl n L) := by
            have h1 := incB_pl (by rw [HM.out]; exact Nat.le_refl _) HI.out
            rwa [List.take_of_length_le (by rw [HM.out]; exact Nat.le_refl _)] at h1
          have hO := isOccurrence_any a n c P e0 qn qc Q b k d L w2 (h.below hbb) (hQ.below hbb) hL2 HPl
          go_wp2_with fail
          refine hO.mono ?_
          rintro e w3 ⟨rfl, hb3⟩
          go_wp2
          go_ret
          exact ⟨ret_bool (by rw [HOC.out, HI.out]; simp), hbb.trans (hb3.mono hbb.size)⟩
    · have HD2 : Hid (decide (Perm8 Q) = false) := decide_eq_false hp2
      have HOC : Hid (occB P Q L = false) := by show _ = _; unfold occB; rw [decide_eq_false hp2]; simp
      clear hp hp2
      go_enter Try.func35, Try.ntmps35
      go_wp2_with fail
      refine hI.mono ?_
      rintro e w1 ⟨rfl, hb1⟩
      have hI2 := impl_IsPerm e0 qn qc Q w1 (hQ.below hb1)
      rw [HD2.out] at hI2
      clear hI
      go_wp2_with fail
      refine hI2.mono ?_
      rintro e w2 ⟨rfl, hb2⟩
      go_wp2
      go_ret
      exact ⟨ret_bool HOC.out.symm, hb1.trans (hb2.mono hb1.size)⟩
  · rw [decide_eq_false hp] at hI
    have HOC : Hid (occB P Q L = false) := by show _ = _; unfold occB; rw [decide_eq_false hp]; simp
    clear hp
    go_enter Try.func35, Try.ntmps35
    go_wp2_with fail
    refine hI.mono ?_
    rintro e w1 ⟨rfl, hb1⟩
    go_wp2
    go_ret
    exact ⟨ret_bool HOC.out.symm, hb1⟩

set_option maxHeartbeats 1000000 in
theorem spec_IsOccurrence (a : Option Addr) (n c : Nat) (P : List Int) (e0 : Option Addr) (qn qc : Nat) (Q : List Int) (b : Option Addr) (m d : Nat) (L : List Int) (w : World) (h : SlI w a n c P) (hQ : SlI w e0 qn qc Q) (hq : SlI w b m d L) :
    Calls Try.prog 34 #[.slice a n c, .slice e0 qn qc, .slice b m d] w (RetV w (.bool (occB P Q L))) := by
  have HN : Hid (P.length = n) := h.2.1
  have HM : Hid (L.length = m) := hq.2.1
  have HQ : Hid (Q.length = qn) := hQ.2.1
  have hmb := hq.2.2.1
  have hnb := h.2.2.1
  have hqnb := hQ.2.2.1
  have hI := spec_IsPerm a n c P w h
  by_cases hp : Perm8 P
  · rw [decide_eq_true hp] at hI
    by_cases hp2 : Perm8 Q
    · have HOC : Hid (occB P Q L = (incB n L m && decide (pat (atP P L) = Q))) := by show _ = _; unfold occB; rw [decide_eq_true hp, decide_eq_true hp2, HN.out, HM.out]; simp
      have HD2 : Hid (decide (Perm8 Q) = true) := decide_eq_true hp2
      clear hp hp2
      by_cases hmq : m = qn
      · have hmq' : ((m : Int) != (qn : Int)) = false := by rw [bne_eq_false_iff_eq]; omega
        go_enter Try.func34, Try.ntmps34
        subst hmq
        go_wp2_with fail
        refine hI.mono ?_
        rintro e w1 ⟨rfl, hb1⟩
        have hI2 := spec_IsPerm e0 m qc Q w1 (hQ.below hb1)
        rw [HD2.out] at hI2
        clear hI
        go_wp2_with fail
        refine hI2.mono ?_
        rintro e w2 ⟨rfl, hb2⟩
        clear hI2
        have hbb := hb1.trans (hb2.mono hb1.size)
        clear hb1 hb2
        go_wp2
        go_loopw [7] (fun i wr => ∃ k : Nat, k ≤ m ∧ i = .int .i64 k ∧ Hid (incB n L k = true) ∧ Quiet w2 wr) (fun i _ => m - (intOf i).toNat)
        case atStart => exact ⟨0, Nat.zero_le _, rfl, rfl, Quiet.refl _⟩
        case round =>
          obtain ⟨k, hk, rfl, HI, hqr⟩ := hrel
          have hbr := hbb.trans ((hqr.below w2.heap.size).mono hbb.size)
          have hL2 := hq.below hbr
          by_cases hlt : k < m
          · obtain ⟨bb, bo, y, rfl, hy, HY⟩ := hL2.1.at (i := k) (by rw [HM.out]; exact hlt)
            have HS : Hid (incB n L (k + 1) = (decide (1 ≤ y ∧ y ≤ (n : Int)) && (decide (k = 0) || decide (L.getD (k - 1) 0 < y)))) := by
              show _ = _; rw [incB_succ HY.out, HI.out]; rfl
            by_cases hy1 : 1 ≤ y ∧ y ≤ (n : Int)
            · have HR : Hid (1 ≤ y ∧ y ≤ (n : Int)) := hy1
              clear hy1
              by_cases hk0 : 0 < k
              · obtain ⟨j, hj⟩ : ∃ j, k = j + 1 := ⟨k - 1, by omega⟩
                have ej : (k : Int) - 1 = (j : Int) := by omega
                obtain ⟨z, hz, HZ⟩ := hL2.1.cell (i := j) (by rw [HM.out]; omega)
                have HZ' : Hid (L.getD (k - 1) 0 = z) := by show _ = _; rw [show k - 1 = j by omega]; exact getD_of HZ.out
                have HK0 : Hid (¬ k = 0) := fun e => by omega
                clear hj
                by_cases hzy : y ≤ z
                · have HF : Hid (incB n L m = false) := incB_false (k := k + 1) (by omega) (by rw [HS.out, HZ'.out, decide_eq_false (by omega : ¬ z < y), decide_eq_false HK0.out]; simp)
                  go_wp2
                  go_quiet ((go_at_call 66; exact Calls.quiet_of_same (l1In_any _ _ _ true (decide_eq_true HR.out).symm _)))
                  go_wp2
                  go_ret
                  exact ⟨ret_bool (by rw [HOC.out, HF.out]; rfl), (hbr.trans (((Quiet.refl _).drewN _).below _))⟩
                · have HI' : Hid (incB n L (k + 1) = true) := by show _ = _; rw [HS.out, HZ'.out, decide_eq_true HR.out, decide_eq_true (by omega : z < y)]; simp
                  go_wp2
                  go_quiet ((go_at_call 66; exact Calls.quiet_of_same (l1In_any _ _ _ true (decide_eq_true HR.out).symm _)))
                  go_wp2
                  go_roundw
                  case rel => exact ⟨k + 1, by omega, by go_num, HI', hqr.drewN _⟩
                  case measure => simp [intOf]; omega
              · have HI' : Hid (incB n L (k + 1) = true) := by show _ = _; rw [HS.out, decide_eq_true HR.out, decide_eq_true (by omega : k = 0)]; rfl
                go_wp2
                go_quiet ((go_at_call 66; exact Calls.quiet_of_same (l1In_any _ _ _ true (decide_eq_true HR.out).symm _)))
                go_wp2
                go_roundw
                case rel => exact ⟨k + 1, by omega, by go_num, HI', hqr.drewN _⟩
                case measure => simp [intOf]; omega
            · have HR : Hid (¬ (1 ≤ y ∧ y ≤ (n : Int))) := hy1
              have HF : Hid (incB n L m = false) := incB_false (k := k + 1) (by omega) (by rw [HS.out, decide_eq_false HR.out]; rfl)
              clear hy1
              go_wp2
              go_quiet ((go_at_call 66; exact Calls.quiet_of_same (l1In_any _ _ _ false (decide_eq_false HR.out).symm _)))
              go_wp2
              go_ret
              exact ⟨ret_bool (by rw [HOC.out, HF.out]; rfl), (hbr.trans (((Quiet.refl _).drewN _).below _))⟩
          · have hkm : k = m := by omega
            subst hkm
            have HPl : Hid (Pl n L) := by
              have h1 := incB_pl (by rw [HM.out]; exact Nat.le_refl _) HI.out
              rwa [List.take_of_length_le (by rw [HM.out]; exact Nat.le_refl _)] at h1
            have hO := l7At_any a n c P b k d L wr (h.below hbr) hL2 HPl
            go_wp2_with fail
            refine hO.mono ?_
            rintro e w3 ⟨a3, n3, c3, rfl, ho3, hb3⟩
            have HL3 : Hid (n3 = k) := by have h1 := ho3.1; rw [length_atP, HM.out] at h1; exact h1.symm
            have hn3 : n3 ≤ 2097152 := by rw [HL3.out]; exact hmb
            have hP := l2Pattern_any _ _ _ _ _ (ho3.sl hn3)
            have hb3' := hbr.trans (hb3.mono hbr.size)
            clear hO ho3 hb3
            go_wp2_with fail
            refine hP.mono ?_
            rintro e w4 ⟨a4, n4, c4, rfl, ho4, hb4⟩
            have HL4 : Hid (n4 = k) := by have h1 := ho4.1; rw [length_pat, length_atP, HM.out] at h1; exact h1.symm
            have hn4 : n4 ≤ 2097152 := by rw [HL4.out]; exact hmb
            have hb4' := hb3'.trans (hb4.mono hb3'.size)
            have hE := l2Same_any a4 e0 n4 k c4 qc (pat (atP P L)) Q w4 ho4.ints (hQ.below hb4').1 ho4.1 hQ.2.1 hn4 hqnb
            clear hP ho4 hb4
            go_wp2_with fail
            refine hE.mono ?_
            rintro e w5 ⟨rfl, hq5⟩
            go_wp2
            go_ret
            exact ⟨ret_bool (by rw [HOC.out, HI.out]; simp), hb4'.trans (hq5.below _)⟩
      · have hmq' : ((m : Int) != (qn : Int)) = true := by rw [bne_iff_ne]; omega
        have HOF : Hid (occB P Q L = false) := by
          show _ = _
          rw [HOC.out, decide_eq_false (fun e => ?_)]
          · simp
          · have h1 := congrArg List.length e
            rw [length_pat, length_atP, HM.out, HQ.out] at h1
            exact hmq h1
        clear hmq
        go_enter Try.func34, Try.ntmps34
        go_wp2_with fail
        refine hI.mono ?_
        rintro e w1 ⟨rfl, hb1⟩
        have hI2 := spec_IsPerm e0 qn qc Q w1 (hQ.below hb1)
        rw [HD2.out] at hI2
        clear hI
        go_wp2_with fail
        refine hI2.mono ?_
        rintro e w2 ⟨rfl, hb2⟩
        clear hI2
        go_wp2
        go_ret
        exact ⟨ret_bool HOF.out.symm, hb1.trans (hb2.mono hb1.size)⟩
    · have HD2 : Hid (decide (Perm8 Q) = false) := decide_eq_false hp2
      have HOC : Hid (occB P Q L = false) := by show _ = _; unfold occB; rw [decide_eq_false hp2]; simp
      clear hp hp2
      go_enter Try.func34, Try.ntmps34
      go_wp2_with fail
      refine hI.mono ?_
      rintro e w1 ⟨rfl, hb1⟩
      have hI2 := spec_IsPerm e0 qn qc Q w1 (hQ.below hb1)
      rw [HD2.out] at hI2
      clear hI
      go_wp2_with fail
      refine hI2.mono ?_
      rintro e w2 ⟨rfl, hb2⟩
      go_wp2
      go_ret
      exact ⟨ret_bool HOC.out.symm, hb1.trans (hb2.mono hb1.size)⟩
  · rw [decide_eq_false hp] at hI
    have HOC : Hid (occB P Q L = false) := by show _ = _; unfold occB; rw [decide_eq_false hp]; simp
    clear hp
    go_enter Try.func34, Try.ntmps34
    go_wp2_with fail
    refine hI.mono ?_
    rintro e w1 ⟨rfl, hb1⟩
    go_wp2
    go_ret
    exact ⟨ret_bool HOC.out.symm, hb1⟩
end Go.Proofs.Ytjndgppekckhbaa
