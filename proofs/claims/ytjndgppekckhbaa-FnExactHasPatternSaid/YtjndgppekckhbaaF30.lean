/- OccurrencesOf and CountPattern: the walks of the exported functions. No condition. -/
import Derived.Test.YtjndgppekckhbaaF29
namespace Go.Proofs.Ytjndgppekckhbaa
open Go.RowKit

def cntP (P Q : List Int) : Int := if Perm8 P ∧ Perm8 Q then ((occs P Q).length : Int) else -1

set_option maxHeartbeats 1000000 in
theorem spec_OccurrencesOf (a : Option Addr) (n c : Nat) (P : List Int) (e0 : Option Addr) (qn qc : Nat) (Q : List Int) (w : World) (h : SlI w a n c P) (hQ : SlI w e0 qn qc Q) :
    Calls Try.prog 87 #[.slice a n c, .slice e0 qn qc] w (RetII w (occsP P Q)) := by
  have hI := spec_IsPerm a n c P w h
  by_cases hp : Perm8 P
  · rw [decide_eq_true hp] at hI
    by_cases hp2 : Perm8 Q
    · have HD2 : Hid (decide (Perm8 Q) = true) := decide_eq_true hp2
      have hn8 : n ≤ 8 := by have h1 := hp.1; have h2 := h.2.1; omega
      have hq8 : qn ≤ 8 := by have h1 := hp2.1; have h2 := hQ.2.1; omega
      have HG : Hid (occsP P Q = occs P Q) := if_pos ⟨hp, hp2⟩
      have HPP : Hid (IsPermL P ∧ IsPermL Q) := ⟨hp.2, hp2.2⟩
      have HLP : Hid (P.length = n ∧ Q.length = qn) := ⟨h.2.1, hQ.2.1⟩
      have HBD : Hid ((occs P Q).length ≤ 256) := length_occs hp.1
      have HFF : Hid (occsP P Q = occs P Q) := if_pos ⟨hp, hp2⟩
      clear hp hp2
      rw [HG.out]
      go_enter Try.func87, Try.ntmps87
      go_wp2_with fail
      refine hI.mono ?_
      rintro e w1 ⟨rfl, hb1⟩
      have hI2 := spec_IsPerm e0 qn qc Q w1 (hQ.below hb1)
      rw [HD2.out] at hI2
      clear hI
      go_wp2_with fail
      refine hI2.mono ?_
      rintro e w2 ⟨rfl, hb2⟩
      clear hI2
      have hbb := hb1.trans (hb2.mono hb1.size)
      have hszb := hbb.size
      clear hb1 hb2
      have HP2 : Hid (ArgI w2 w2.heap.size a n c P) := (h.below hbb).arg
      have HQ2 : Hid (ArgI w2 w2.heap.size e0 qn qc Q) := (hQ.below hbb).arg
      have e1 : Hid (occs P Q = [] ++ fndP P Q n qn []) := by
        show _ = _; rw [← fnd_occs HPP.out.1 HPP.out.2, HLP.out.1, HLP.out.2]; rfl
      have HT : Hid (0 + (fndP P Q n qn []).length ≤ 100000) := by
        have h1 := HBD.out; rw [e1.out] at h1; simp at h1
        show 0 + _ ≤ _
        omega
      have hI := l7Find_any a n c P e0 qn qc Q w2.heap.size hn8 hq8 qn w2.heap.size 0 0 [] (some ⟨(w2.alloc (.cells #[] 3)).heap.size, 0, none⟩) 0 0 [] ((w2.alloc (.cells #[] 3)).alloc (.cells #[] 22)) w2.heap.size (w2.heap.size + 2)
        ((HP2.out.below (below_alloc _ _)).below (below_alloc _ _)) ((HQ2.out.below (below_alloc _ _)).below (below_alloc _ _))
        ⟨(OwnI.lit0 w2).below (below_alloc _ _), fun p hp => by obtain rfl := Option.some.inj hp; simp; omega⟩
        ((OwnII.lit0 (w2.alloc (.cells #[] 3))).mono (lo' := w2.heap.size) (hi' := w2.heap.size + 2) (by simp) (by simp)) (.inr rfl) (Nat.le_refl _) (by simp) (by simp; omega) (by omega) (Inc.nil n) HT
      go_wp2_with fail
      refine Calls.mono (by simpa using hI) ?_
      rintro e w3 ⟨a3, n3, c3, rfl, ho3, hb3, _, _⟩
      clear hI
      go_wp2
      go_ret
      exact ⟨_, _, _, rfl, by rw [e1.out, List.nil_append]; exact ho3.mono hszb (Nat.le_refl _), hbb.trans ((((below_alloc w2 _).trans ((below_alloc _ _).mono (by simp))).trans hb3).mono hszb)⟩
    · have HD2 : Hid (decide (Perm8 Q) = false) := decide_eq_false hp2
      have HG : Hid (occsP P Q = []) := if_neg (fun hc => hp2 hc.2)
      clear hp hp2
      rw [HG.out]
      go_enter Try.func87, Try.ntmps87
      go_wp2_with fail
      refine hI.mono ?_
      rintro e w1 ⟨rfl, hb1⟩
      have hI2 := spec_IsPerm e0 qn qc Q w1 (hQ.below hb1)
      rw [HD2.out] at hI2
      clear hI
      go_wp2_with fail
      refine hI2.mono ?_
      rintro e w2 ⟨rfl, hb2⟩
      have hbb := hb1.trans (hb2.mono hb1.size)
      go_wp2
      go_ret
      exact ⟨_, _, _, rfl, (OwnII.start w2).mono hbb.size (Nat.le_refl _), hbb.alloc hbb.size _⟩
  · rw [decide_eq_false hp] at hI
    have HG : Hid (occsP P Q = []) := if_neg (fun hc => hp hc.1)
    clear hp
    rw [HG.out]
    go_enter Try.func87, Try.ntmps87
    go_wp2_with fail
    refine hI.mono ?_
    rintro e w2 ⟨rfl, hbb⟩
    go_wp2
    go_ret
    exact ⟨_, _, _, rfl, (OwnII.start w2).mono hbb.size (Nat.le_refl _), hbb.alloc hbb.size _⟩

set_option maxHeartbeats 1000000 in
theorem spec_CountPattern (a : Option Addr) (n c : Nat) (P : List Int) (e0 : Option Addr) (qn qc : Nat) (Q : List Int) (w : World) (h : SlI w a n c P) (hQ : SlI w e0 qn qc Q) :
    Calls Try.prog 54 #[.slice a n c, .slice e0 qn qc] w (RetV w (.int .i64 (cntP P Q))) := by
  have hI := spec_IsPerm a n c P w h
  by_cases hp : Perm8 P
  · rw [decide_eq_true hp] at hI
    by_cases hp2 : Perm8 Q
    · have HD2 : Hid (decide (Perm8 Q) = true) := decide_eq_true hp2
      have hn8 : n ≤ 8 := by have h1 := hp.1; have h2 := h.2.1; omega
      have hq8 : qn ≤ 8 := by have h1 := hp2.1; have h2 := hQ.2.1; omega
      have HG : Hid (cntP P Q = ((occs P Q).length : Int)) := if_pos ⟨hp, hp2⟩
      have HPP : Hid (IsPermL P ∧ IsPermL Q) := ⟨hp.2, hp2.2⟩
      have HLP : Hid (P.length = n ∧ Q.length = qn) := ⟨h.2.1, hQ.2.1⟩
      have HBD : Hid ((occs P Q).length ≤ 256) := length_occs hp.1
      have HFF : Hid (occsP P Q = occs P Q) := if_pos ⟨hp, hp2⟩
      clear hp hp2
      rw [HG.out]
      go_enter Try.func54, Try.ntmps54
      go_wp2_with fail
      refine hI.mono ?_
      rintro e w1 ⟨rfl, hb1⟩
      have hI2 := spec_IsPerm e0 qn qc Q w1 (hQ.below hb1)
      rw [HD2.out] at hI2
      clear hI
      go_wp2_with fail
      refine hI2.mono ?_
      rintro e w2 ⟨rfl, hb2⟩
      clear hI2
      have hbb := hb1.trans (hb2.mono hb1.size)
      have hszb := hbb.size
      clear hb1 hb2
      have hO := spec_OccurrencesOf a n c P e0 qn qc Q w2 (h.below hbb) (hQ.below hbb)
      rw [HFF.out] at hO
      go_wp2_with fail
      refine hO.mono ?_
      rintro e w3 ⟨a3, n3, c3, rfl, ho3, hb3⟩
      have HL3 : Hid ((occs P Q).length = n3) := ho3.len
      have hn3 : n3 ≤ 256 := by have h1 := HL3.out; have h2 := HBD.out; omega
      go_wp2
      go_ret
      exact ⟨ret_int (by rw [HL3.out]), hbb.trans (hb3.mono hszb)⟩
    · have HD2 : Hid (decide (Perm8 Q) = false) := decide_eq_false hp2
      have HG : Hid (cntP P Q = -1) := if_neg (fun hc => hp2 hc.2)
      clear hp hp2
      rw [HG.out]
      go_enter Try.func54, Try.ntmps54
      go_wp2_with fail
      refine hI.mono ?_
      rintro e w1 ⟨rfl, hb1⟩
      have hI2 := spec_IsPerm e0 qn qc Q w1 (hQ.below hb1)
      rw [HD2.out] at hI2
      clear hI
      go_wp2_with fail
      refine hI2.mono ?_
      rintro e w2 ⟨rfl, hb2⟩
      have hbb := hb1.trans (hb2.mono hb1.size)
      go_wp2
      go_ret
      exact ⟨rfl, hbb⟩
  · rw [decide_eq_false hp] at hI
    have HG : Hid (cntP P Q = -1) := if_neg (fun hc => hp hc.1)
    clear hp
    rw [HG.out]
    go_enter Try.func54, Try.ntmps54
    go_wp2_with fail
    refine hI.mono ?_
    rintro e w2 ⟨rfl, hbb⟩
    go_wp2
    go_ret
    exact ⟨rfl, hbb⟩

end Go.Proofs.Ytjndgppekckhbaa
