/- InflateBy: the program's function, and the reference's test of a list. No condition but on the sizes. -/
import Derived.Test.YtmojniiimondfaaF34
namespace Go.Proofs.Ytmojniiimondfaa
open Go.RowKit

instance decAllPerm (xss : List (List Int)) : Decidable (∀ r ∈ xss, Perm8 r) := List.decidableBAll _ _
set_option maxHeartbeats 600000 in
theorem l3All_any (a : Option Addr) (n c : Nat) (xss : List (List Int)) (w : World) (h : IIs w a n c xss) :
    Calls Try.prog 80 #[.slice a n c] w (RetV w (.bool (decide (∀ r ∈ xss, Perm8 r)))) := by
  have HN : Hid (xss.length = n) := h.2.1
  have hnb := h.2.2.1
  obtain ⟨D, hD⟩ : ∃ D, D = decide (∀ r ∈ xss, Perm8 r) := ⟨_, rfl⟩
  rw [← hD]
  have HD := Lib.hid hD; clear hD
  go_enter Try.func80, Try.ntmps80
  go_wp2
  go_loopw [3] (fun i wr => ∃ k : Nat, k ≤ n ∧ i = .int .i64 k ∧ Hid (∀ r ∈ xss.take k, Perm8 r) ∧ Below w.heap.size w wr) (fun i _ => n - (intOf i).toNat)
  case atStart => exact ⟨0, Nat.zero_le _, rfl, by show ∀ r ∈ _, _; simp, Below.refl _ _⟩
  case round =>
    obtain ⟨k, hk, rfl, HA, hb⟩ := hrel
    by_cases hlt : k < n
    · obtain ⟨ab, ao, ra, rn, rc, xs, rfl, hx, hr, HX⟩ := (h.below hb).at hlt
      have hI := spec_IsPerm ra rn rc xs wr hr
      have hszb := hb.size
      clear hr
      by_cases hp : Perm8 xs
      · rw [decide_eq_true hp] at hI
        have HA' : Hid (∀ r ∈ xss.take (k + 1), Perm8 r) := by
          show ∀ r ∈ _, _
          intro r hr'
          rw [take_snoc HX.out] at hr'
          rcases List.mem_append.1 hr' with h1 | h1
          · exact HA.out r h1
          · simp at h1; rw [h1]; exact hp
        clear hp
        go_wp2_with fail
        refine hI.mono ?_
        rintro e w1 ⟨rfl, hb1⟩
        have hbb := hb.trans (hb1.mono hszb)
        clear hI hb1
        go_wp2
        go_roundw
        case rel => exact ⟨k + 1, by omega, by go_num, HA', hbb⟩
        case measure => simp [intOf]; omega
      · rw [decide_eq_false hp] at hI
        have HF : Hid (D = false) := by show _ = _; rw [HD.out]; exact decide_eq_false fun hj => hp (hj xs (List.mem_of_getElem? HX.out))
        clear hp
        go_wp2_with fail
        refine hI.mono ?_
        rintro e w1 ⟨rfl, hb1⟩
        have hbb := hb.trans (hb1.mono hszb)
        go_wp2
        go_ret
        exact ⟨ret_bool HF.out.symm, hbb⟩
    · have hkn : k = n := by omega
      subst hkn
      have HT : Hid (D = true) := by
        show _ = _
        rw [HD.out]
        refine decide_eq_true fun r hr => HA.out r ?_
        rw [List.take_of_length_le (by rw [HN.out]; exact Nat.le_refl _)]; exact hr
      go_wp2
      go_ret
      exact ⟨ret_bool HT.out.symm, hb⟩

def IOk (P : List Int) (L : List (List Int)) : Prop := Perm8 P ∧ L.length = P.length ∧ (∀ r ∈ L, Perm8 r) ∧ (∀ r ∈ L, 0 < r.length) ∧ totL L ≤ 8
instance (P : List Int) (L : List (List Int)) : Decidable (IOk P L) := by unfold IOk; infer_instance
def infP (P : List Int) (L : List (List Int)) : List Int := if IOk P L then infK P L P.length else []
theorem length_infP (P : List Int) (L : List (List Int)) : (infP P L).length ≤ 8 := by
  unfold infP; split
  · rename_i h
    rw [length_infK P L _ (by rw [h.2.1]; exact Nat.le_refl _)]
    exact Nat.le_trans (totL_take_le _ _) h.2.2.2.2
  · simp
end Go.Proofs.Ytmojniiimondfaa
