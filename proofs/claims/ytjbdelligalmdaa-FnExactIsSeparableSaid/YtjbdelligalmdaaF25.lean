/- IsOccurrence: the walks of the program's and the reference's functions. No condition. -/
import Derived.Test.YtjbdelligalmdaaF09
import Derived.Test.YtjbdelligalmdaaF05
namespace Go.Proofs.Ytjbdelligalmdaa
open Go.RowKit

/-- The numbers at places. -/
def atP (P L : List Int) : List Int := L.map fun x => P.getD (x - 1).toNat 0
theorem length_atP (P L : List Int) : (atP P L).length = L.length := by simp [atP]
def Pl (n : Nat) (L : List Int) : Prop := ∀ x ∈ L, 1 ≤ x ∧ x ≤ (n : Int)
/-- The first k places rise, and are places of n numbers. -/
def incB (n : Nat) (L : List Int) : Nat → Bool
  | 0 => true
  | k + 1 => incB n L k && (decide (1 ≤ L.getD k 0 ∧ L.getD k 0 ≤ (n : Int)) && (decide (k = 0) || decide (L.getD (k - 1) 0 < L.getD k 0)))
theorem incB_pl {n : Nat} {L : List Int} {k : Nat} (hk : k ≤ L.length) (h : incB n L k = true) : Pl n (L.take k) := by
  induction k with
  | zero => simp [Pl]
  | succ k ih =>
    simp only [incB, Bool.and_eq_true] at h
    have hx : L[k]? = some _ := List.getElem?_eq_getElem (by omega)
    intro x hx'
    rcases (mem_take_succ hx x).1 hx' with h1 | h1
    · exact ih (by omega) h.1 x h1
    · have := of_decide_eq_true h.2.1
      rw [getD_of hx] at this
      rw [h1]; exact this
theorem incB_false {n : Nat} {L : List Int} {k m : Nat} (hkm : k ≤ m) (h : incB n L k = false) : incB n L m = false := by
  induction m with
  | zero => obtain rfl : k = 0 := by omega
            exact h
  | succ m ih =>
    rcases Nat.lt_or_ge m k with h1 | h1
    · obtain rfl : k = m + 1 := by omega
      exact h
    · simp only [incB, ih h1, Bool.false_and]
theorem incB_succ {n : Nat} {L : List Int} {k : Nat} {x : Int} (hx : L[k]? = some x) : incB n L (k + 1) = (incB n L k && (decide (1 ≤ x ∧ x ≤ (n : Int)) && (decide (k = 0) || decide (L.getD (k - 1) 0 < x)))) := by
  simp only [incB, getD_of hx]

set_option maxHeartbeats 600000 in
theorem isOccurrence_any (a : Option Addr) (n c : Nat) (P : List Int) (e0 : Option Addr) (qn qc : Nat) (Q : List Int) (b : Option Addr) (m d : Nat) (L : List Int) (w : World) (h : SlI w a n c P) (hQ : SlI w e0 qn qc Q) (hq : SlI w b m d L) (hp : Hid (Pl n L)) :
    Calls Try.prog 95 #[.slice a n c, .slice e0 qn qc, .slice b m d] w (RetV w (.bool (decide (pat (atP P L) = Q)))) := by
  have HN : Hid (P.length = n) := h.2.1
  have HM : Hid (L.length = m) := hq.2.1
  have hmb := hq.2.2.1
  have hnb := h.2.2.1
  have hqnb := hQ.2.2.1
  go_enter Try.func95, Try.ntmps95
  go_wp2
  go_loopw [7, 9, 13] (fun v _ i wr => ∃ (k c1 : Nat) (a1 : Option Addr), k ≤ m ∧ i = .int .i64 k ∧ v = .slice a1 k c1 ∧ OwnI wr w.heap.size a1 k c1 ((atP P L).take k) ∧ Below w.heap.size w wr) (fun _ _ i _ => m - (intOf i).toNat)
  case atStart => exact ⟨0, 0, _, Nat.zero_le _, rfl, rfl, OwnI.lit0 w, below_alloc _ _⟩
  case round =>
    obtain ⟨k, c1, a1, hk, rfl, rfl, ho, hb⟩ := hrel
    by_cases hlt : k < m
    · obtain ⟨bb, bo, y, rfl, hy, HY⟩ := (hq.1.below hb).at (i := k) (by rw [HM.out]; exact hlt)
      have hy01 := hp.out y (List.mem_of_getElem? HY.out)
      obtain ⟨yn, hyn⟩ : ∃ yn : Nat, y = (yn : Int) + 1 := ⟨(y - 1).toNat, by omega⟩
      have hyn1 : yn < n := by omega
      clear hy01
      subst hyn
      obtain ⟨ab, ao, x, rfl, hx, HX⟩ := (h.1.below hb).at (i := yn) (by rw [HN.out]; exact hyn1)
      have e : (atP P L)[k]? = some x := by
        simp only [atP, List.getElem?_map, HY.out, Option.map_some]
        rw [show ((yn : Int) + 1 - 1).toNat = yn by omega, getD_of HX.out]
      have E := Lib.hid e; clear e
      go_wp2_with (at_builtin; refine wpList_appI rfl _ _ rfl w.heap.size _ _ _ _ rfl ho _ rfl (by omega) hb.size ?_)
      intro a' c' w1 h1 h3
      rw [← take_snoc E.out] at h1
      go_wp2
      go_roundw
      case rel => exact ⟨k + 1, c', a', by omega, by go_num, rfl, h1, hb.trans h3⟩
      case measure => simp [intOf]; omega
    · have : k = m := by omega
      subst this
      rw [List.take_of_length_le (by rw [length_atP, HM.out]; exact Nat.le_refl _)] at ho
      have hP := pattern_any _ _ _ _ _ (ho.sl hmb)
      have hQ1 := hQ.below hb
      clear ho
      go_wp2_with fail
      refine hP.mono ?_
      rintro e w1 ⟨a2, n2, c2, rfl, ho2, hb2⟩
      have HL2 : Hid (n2 = k) := by have h1 := ho2.1; rw [length_pat, length_atP, HM.out] at h1; exact h1.symm
      have hn2 : n2 ≤ 2097152 := by rw [HL2.out]; exact hmb
      have hE := slicesEqual_any a2 e0 n2 qn c2 qc (pat (atP P L)) Q w1 ho2.ints (hQ1.below hb2).1 ho2.1 hQ.2.1 hn2 hqnb
      have hbb := hb.trans (hb2.mono hb.size)
      clear hP ho2 hb2 hQ1
      go_wp2_with fail
      refine hE.mono ?_
      rintro e w2 ⟨rfl, hq2⟩
      go_wp2
      go_ret
      exact ⟨rfl, hbb.trans (hq2.below _)⟩
end Go.Proofs.Ytjbdelligalmdaa
