/- InflateBy: the walk of the program's function. No condition but on the sizes. -/
import Derived.Test.YtmojniiimondfaaF35
namespace Go.Proofs.Ytmojniiimondfaa
open Go.RowKit

set_option maxHeartbeats 1600000 in
theorem impl_InflateBy (a : Option Addr) (n c : Nat) (P : List Int) (b : Option Addr) (m d : Nat) (L : List (List Int)) (w : World) (h : SlI w a n c P) (hL : IIs w b m d L) :
    Calls Try.prog 25 #[.slice a n c, .slice b m d] w (RetIB w (infP P L) (decide (IOk P L))) := by
  have HN : Hid (P.length = n) := h.2.1
  have HM : Hid (L.length = m) := hL.2.1
  have hmb := hL.2.2.1
  have hnb := h.2.2.1
  obtain ⟨R, hR⟩ : ∃ R, R = infP P L := ⟨_, rfl⟩
  obtain ⟨D, hD⟩ : ∃ D, D = decide (IOk P L) := ⟨_, rfl⟩
  rw [← hR, ← hD]
  have HG : Hid (IOk P L → R = infK P L n ∧ D = true) := fun hj => by rw [hR, hD]; unfold infP; rw [HN.out]; exact ⟨if_pos hj, decide_eq_true hj⟩
  have HB : Hid (¬ IOk P L → R = [] ∧ D = false) := fun hj => by rw [hR, hD]; unfold infP; exact ⟨if_neg hj, decide_eq_false hj⟩
  clear hR hD
  have hI := impl_IsPerm a n c P w h
  by_cases hp : Perm8 P
  · rw [decide_eq_true hp] at hI
    have HP : Hid (Perm8 P) := hp
    have hn8 : n ≤ 8 := by have h1 := hp.1; have h2 := h.2.1; omega
    clear hp
    by_cases hmn : m = n
    · have hmn' : ((m : Int) != (n : Int)) = false := by rw [bne_eq_false_iff_eq]; omega
      have HMN : Hid (m = n) := hmn
      have hm8 : m ≤ 8 := by omega
      have hmn1 : m ≤ n := by omega
      have hmn2 : n ≤ m := by omega
      clear hmn
      go_enter Try.func25, Try.ntmps25
      go_wp2_with fail
      refine hI.mono ?_
      rintro e w1 ⟨rfl, hb1⟩
      have hsz1 := hb1.size
      clear hI
      go_wp2
      go_loopw [6, 8, 21] (fun tv _ i wr => ∃ (k z : Nat), k ≤ m ∧ z ≤ 8 * k ∧ i = .int .i64 k ∧ tv = .int .i64 z ∧ Hid (totL (L.take k) = z) ∧ Hid (∀ r ∈ L.take k, Perm8 r ∧ 0 < r.length) ∧ Below w.heap.size w wr) (fun _ _ i _ => m - (intOf i).toNat)
      case atStart => exact ⟨0, 0, Nat.zero_le _, by omega, rfl, rfl, by show _ = _; simp [totL], by show ∀ r ∈ _, _; simp, hb1⟩
      case round =>
        obtain ⟨k, z, hk, hz, rfl, rfl, HZ, HA, hb⟩ := hrel
        have hszb := hb.size
        by_cases hlt : k < m
        · obtain ⟨ab, ao, ra, rn, rc, xs, rfl, hx, hr, HX⟩ := (hL.below hb).at hlt
          have hI2 := impl_IsPerm ra rn rc xs wr hr
          have HLn : Hid (xs.length = rn) := hr.2.1
          have hrnb := hr.2.2.1
          clear hr
          by_cases hpx : Perm8 xs
          · rw [decide_eq_true hpx] at hI2
            have HPx : Hid (Perm8 xs) := hpx
            have hr8 : rn ≤ 8 := by have h1 := hpx.1; have h2 := HLn.out; omega
            clear hpx
            by_cases hr0 : rn = 0
            · have hr0' : ((rn : Int) == 0) = true := by rw [beq_iff_eq]; omega
              have HNJ : Hid (¬ IOk P L) := fun hj => by
                have h1 := hj.2.2.2.1 xs (List.mem_of_getElem? HX.out)
                rw [HLn.out] at h1; omega
              clear hr0
              obtain ⟨e1, e2⟩ := HB.out HNJ.out
              subst e1 e2
              go_wp2_with fail
              refine hI2.mono ?_
              rintro e w2 ⟨rfl, hb2⟩
              have hbb := hb.trans (hb2.mono hszb)
              go_wp2
              go_ret2
              exact ⟨_, _, _, rfl, OwnI.nil _ _, hbb⟩
            · have hr0' : ((rn : Int) == 0) = false := by rw [beq_eq_false_iff_ne]; omega
              have HA' : Hid (∀ r ∈ L.take (k + 1), Perm8 r ∧ 0 < r.length) := by
                show ∀ r ∈ _, _
                intro r hr'
                rw [take_snoc HX.out] at hr'
                rcases List.mem_append.1 hr' with h1 | h1
                · exact HA.out r h1
                · simp at h1; rw [h1]; exact ⟨HPx.out, by rw [HLn.out]; omega⟩
              have HZ' : Hid (totL (L.take (k + 1)) = z + rn) := by show _ = _; rw [totL_snoc HX.out, HZ.out, HLn.out]
              clear hr0
              go_wp2_with fail
              refine hI2.mono ?_
              rintro e w2 ⟨rfl, hb2⟩
              have hbb := hb.trans (hb2.mono hszb)
              clear hI2
              go_wp2
              go_roundw
              case rel => exact ⟨k + 1, z + rn, by omega, by omega, by go_num, by go_num, HZ', HA', hbb⟩
              case measure => simp [intOf]; omega
          · rw [decide_eq_false hpx] at hI2
            have HNJ : Hid (¬ IOk P L) := fun hj => hpx (hj.2.2.1 xs (List.mem_of_getElem? HX.out))
            clear hpx
            obtain ⟨e1, e2⟩ := HB.out HNJ.out
            subst e1 e2
            go_wp2_with fail
            refine hI2.mono ?_
            rintro e w2 ⟨rfl, hb2⟩
            have hbb := hb.trans (hb2.mono hszb)
            go_wp2
            go_ret2
            exact ⟨_, _, _, rfl, OwnI.nil _ _, hbb⟩
        · have hkm : k = m := by omega
          subst hkm
          have HTz : Hid (totL L = z) := by
            have h1 := HZ.out
            rwa [List.take_of_length_le (by rw [HM.out]; exact Nat.le_refl _)] at h1
          have HAll : Hid (∀ r ∈ L, Perm8 r ∧ 0 < r.length) := by
            have h1 := HA.out
            rwa [List.take_of_length_le (by rw [HM.out]; exact Nat.le_refl _)] at h1
          by_cases hbig : 8 < z
          · have HNJ : Hid (¬ IOk P L) := fun hj => by
              have h1 := hj.2.2.2.2
              rw [HTz.out] at h1; omega
            obtain ⟨e1, e2⟩ := HB.out HNJ.out
            subst e1 e2
            go_wp2
            go_ret2
            exact ⟨_, _, _, rfl, OwnI.nil _ _, hb⟩
          · have HJ : Hid (IOk P L) := ⟨HP.out, by rw [HM.out, HN.out, HMN.out], fun r hr => (HAll.out r hr).1, fun r hr => (HAll.out r hr).2, by rw [HTz.out]; omega⟩
            obtain ⟨e1, e2⟩ := HG.out HJ.out
            subst e1 e2
            have hF := inflate_any a n c P b k d L wr (h.below hb) (hL.below hb) hmn1 hmn2 HJ.out.2.2.2.2 HJ.out.2.2.1
            go_wp2_with fail
            refine hF.mono ?_
            rintro e w3 ⟨a3, n3, c3, rfl, ho3, hb3⟩
            go_wp2
            go_ret2
            exact ⟨_, _, _, rfl, ho3.mono hszb, hb.trans (hb3.mono hszb)⟩
    · have hmn' : ((m : Int) != (n : Int)) = true := by rw [bne_iff_ne]; omega
      have HNJ : Hid (¬ IOk P L) := fun hj => hmn (by have h1 := hj.2.1; rw [HM.out, HN.out] at h1; exact h1)
      clear hmn
      obtain ⟨e1, e2⟩ := HB.out HNJ.out
      subst e1 e2
      go_enter Try.func25, Try.ntmps25
      go_wp2_with fail
      refine hI.mono ?_
      rintro e w1 ⟨rfl, hb1⟩
      go_wp2
      go_ret2
      exact ⟨_, _, _, rfl, OwnI.nil _ _, hb1⟩
  · rw [decide_eq_false hp] at hI
    have HNJ : Hid (¬ IOk P L) := fun hj => hp hj.1
    clear hp
    obtain ⟨e1, e2⟩ := HB.out HNJ.out
    subst e1 e2
    go_enter Try.func25, Try.ntmps25
    go_wp2_with fail
    refine hI.mono ?_
    rintro e w1 ⟨rfl, hb1⟩
    go_wp2
    go_ret2
    exact ⟨_, _, _, rfl, OwnI.nil _ _, hb1⟩
end Go.Proofs.Ytmojniiimondfaa
