/- HasPattern: the walks of the exported functions. No condition. -/
import Derived.Test.YtjndgppekckhbaaF31
namespace Go.Proofs.Ytjndgppekckhbaa
open Go.RowKit

def hasB (P Q : List Int) : Bool := decide (1 ≤ cntP P Q)

set_option maxHeartbeats 400000 in
theorem spec_HasPattern (a : Option Addr) (n c : Nat) (P : List Int) (e0 : Option Addr) (qn qc : Nat) (Q : List Int) (w : World) (h : SlI w a n c P) (hQ : SlI w e0 qn qc Q) :
    Calls Try.prog 23 #[.slice a n c, .slice e0 qn qc] w (RetV w (.bool (hasB P Q))) := by
  have hC := spec_CountPattern a n c P e0 qn qc Q w h hQ
  have HB : Hid (hasB P Q = decide (1 ≤ cntP P Q)) := rfl
  obtain ⟨z, hz⟩ : ∃ z, z = cntP P Q := ⟨_, rfl⟩
  rw [← hz] at hC HB
  rw [HB.out]
  clear hz
  go_enter Try.func23, Try.ntmps23
  go_wp2_with fail
  refine hC.mono ?_
  rintro e w1 ⟨rfl, hb1⟩
  go_wp2
  go_ret
  exact ⟨rfl, hb1⟩

set_option maxHeartbeats 1000000 in
theorem impl_HasPattern (a : Option Addr) (n c : Nat) (P : List Int) (e0 : Option Addr) (qn qc : Nat) (Q : List Int) (w : World) (h : SlI w a n c P) (hQ : SlI w e0 qn qc Q) :
    Calls Try.prog 24 #[.slice a n c, .slice e0 qn qc] w (RetV w (.bool (hasB P Q))) := by
  have hI := impl_IsPerm a n c P w h
  by_cases hp : Perm8 P
  · rw [decide_eq_true hp] at hI
    by_cases hp2 : Perm8 Q
    · have HD2 : Hid (decide (Perm8 Q) = true) := decide_eq_true hp2
      have hn8 : n ≤ 8 := by have h1 := hp.1; have h2 := h.2.1; omega
      have hq8 : qn ≤ 8 := by have h1 := hp2.1; have h2 := hQ.2.1; omega
      have HG : Hid (hasB P Q = decide (fndP P Q n qn (up []) ≠ [])) := by
        show _ = _
        unfold hasB cntP
        rw [if_pos ⟨hp, hp2⟩, ← fnd_occs hp.2 hp2.2, h.2.1, hQ.2.1]
        refine decide_eq_decide.2 ⟨fun h1 h2 => ?_, fun h1 => ?_⟩
        · have h3 : up [] = [] := rfl
          rw [h3] at h2
          rw [h2] at h1; simp at h1
        · have h3 : up [] = [] := rfl
          rw [h3] at h1
          have := List.length_pos_iff.2 h1
          omega
      clear hp hp2
      rw [HG.out]
      go_enter Try.func24, Try.ntmps24
      go_wp2_with fail
      refine hI.mono ?_
      rintro e w1 ⟨rfl, hb1⟩
      have hI2 := impl_IsPerm e0 qn qc Q w1 (hQ.below hb1)
      rw [HD2.out] at hI2
      clear hI
      go_wp2_with fail
      refine hI2.mono ?_
      rintro e w2 ⟨rfl, hb2⟩
      clear hI2
      have hbb := hb1.trans (hb2.mono hb1.size)
      clear hb1 hb2
      have hH := has_any a n c P e0 qn qc Q hn8 hq8 qn none 0 0 [] w2 (h.below hbb) (hQ.below hbb) ⟨Ints.nil _ _, rfl, by omega, by omega, fun _ => rfl⟩ (by omega) (Inc.nil n)
      have hszb := hbb.size
      go_wp2_with fail
      refine hH.mono ?_
      rintro e w3 ⟨rfl, hb3⟩
      go_wp2
      go_ret
      exact ⟨ret_bool (by simp), hbb.trans (hb3.mono hszb)⟩
    · have HD2 : Hid (decide (Perm8 Q) = false) := decide_eq_false hp2
      have HG : Hid (hasB P Q = false) := by
        show _ = _; unfold hasB cntP; rw [if_neg (fun hc => hp2 hc.2)]; rfl
      clear hp hp2
      rw [HG.out]
      go_enter Try.func24, Try.ntmps24
      go_wp2_with fail
      refine hI.mono ?_
      rintro e w1 ⟨rfl, hb1⟩
      have hI2 := impl_IsPerm e0 qn qc Q w1 (hQ.below hb1)
      rw [HD2.out] at hI2
      clear hI
      go_wp2_with fail
      refine hI2.mono ?_
      rintro e w2 ⟨rfl, hb2⟩
      have hbb := hb1.trans (hb2.mono hb1.size)
      go_wp2
      go_ret
      exact ⟨rfl, hbb⟩
  · rw [decide_eq_false hp] at hI
    have HG : Hid (hasB P Q = false) := by
      show _ = _; unfold hasB cntP; rw [if_neg (fun hc => hp hc.1)]; rfl
    clear hp
    rw [HG.out]
    go_enter Try.func24, Try.ntmps24
    go_wp2_with fail
    refine hI.mono ?_
    rintro e w2 ⟨rfl, hbb⟩
    go_wp2
    go_ret
    exact ⟨rfl, hbb⟩
end Go.Proofs.Ytjndgppekckhbaa
