/- IsLayered of the reference. No condition. -/
import Derived.Test.YtmojniiimondfaaF40
import Derived.Deep.RegionLaw
namespace Go.Proofs.Ytmojniiimondfaa
open Go.RowKit

theorem identP_nat {n : Nat} (h : n ≤ 8) : identP (n : Int) = ident n := by
  unfold identP
  by_cases h1 : 1 ≤ (n : Int)
  · rw [if_pos ⟨h1, by omega⟩]; simp
  · obtain rfl : n = 0 := by omega
    rw [if_neg (by omega)]; rfl
theorem specIdent_nat (n : Nat) (w : World) (h : n ≤ 8) :
    Calls Try.prog 93 #[.int .i64 (n : Int)] w (RetI w (ident n)) := by
  rw [← identP_nat h]
  exact spec_IdentityPerm (n : Int) w (by simp [Lit.wf, IntKind.min, IntKind.max, IntKind.bits, IntKind.signed]; omega)

set_option maxHeartbeats 2000000 in
set_option maxRecDepth 100000 in
theorem spec_IsLayered (a : Option Addr) (n c : Nat) (xs : List Int) (w : World) (h : SlI w a n c xs) :
    Calls Try.prog 52 #[.slice a n c] w (RetV w (.bool (layP xs))) := by
  have hS := spec_SumParts a n c xs w h
  obtain ⟨D, hD⟩ : ∃ D, D = layP xs := ⟨_, rfl⟩
  obtain ⟨xss, hX⟩ : ∃ xss, xss = sumPsP xs := ⟨_, rfl⟩
  have H8 : Hid (∀ r ∈ xss, r.length ≤ 8) := by
    intro r hr
    rw [hX] at hr
    unfold sumPsP at hr
    split at hr
    · rename_i hp; exact (rows_sumPs hp r hr).2
    · simp at hr
  have HB : Hid (totL xss ≤ 2097152 ∧ xss.length ≤ 2097152) := by rw [hX]; exact bound_sumPsP xs
  have HF : Hid ((∃ r ∈ xss, fallB r = false) → D = false) := by
    rintro ⟨r, hr, hf⟩
    rw [hD]; unfold layP
    by_cases hp : Perm8 xs
    · rw [hX, show sumPsP xs = sumPs xs from if_pos hp] at hr
      rw [Bool.and_eq_false_iff]; right
      rw [List.all_eq_false]; exact ⟨r, hr, by simp [hf]⟩
    · simp [hp]
  have HT : Hid ((∀ r ∈ xss, fallB r = true) → D = decide (Perm8 xs)) := by
    intro hr
    rw [hD]; unfold layP
    by_cases hp : Perm8 xs
    · rw [hX, show sumPsP xs = sumPs xs from if_pos hp] at hr
      simp [hp]; exact hr
    · simp [hp]
  rw [← hD]
  rw [← hX] at hS
  clear hD hX
  go_enter Try.func52, Try.ntmps52
  go_wp2_with fail
  refine hS.mono ?_
  rintro e w0 ⟨a0, n0, c0, rfl, ho0, hb0⟩
  clear hS
  have HN : Hid (xss.length = n0) := ho0.len
  have hnb : n0 ≤ 2097152 := by have h1 := HN.out; have h2 := HB.out.2; omega
  have ha := ho0.iisT HB.out
  clear ho0
  have h0 := h.below hb0
  clear h
  go_wp2
  go_loopw [4] (fun i wr => ∃ k : Nat, k ≤ n0 ∧ i = .int .i64 k ∧ Hid (∀ r ∈ xss.take k, fallB r = true) ∧ Below w0.heap.size w0 wr) (fun i _ => n0 - (intOf i).toNat)
  case atStart => exact ⟨0, Nat.zero_le _, rfl, by simp [Hid], Below.refl _ _⟩
  case round =>
    obtain ⟨k, hk, rfl, HA, hb⟩ := hrel
    by_cases hlt : k < n0
    · obtain ⟨ab, ao, ra, rn, rc, xs', rfl, hx, hr, HX⟩ := (ha.below hb).at hlt
      have hr8 : rn ≤ 8 := by rw [← hr.2.1]; exact H8.out xs' (List.mem_of_getElem? HX.out)
      have HR : Hid (xs'.length = rn) := hr.2.1
      have hlt2 := World.block_lt_of_cell? wr _ hx
      have hC1 : ∀ w1, Below wr.heap.size wr w1 → Calls Try.prog 92 #[.slice ra rn rc] w1 (RetI w1 xs'.reverse) := fun w1 hb1 => l3Reverse_any ra rn rc xs' w1 (hr.below hb1)
      have hC2 : ∀ w1, Calls Try.prog 93 #[.int .i64 (rn : Int)] w1 (RetI w1 (ident rn)) := fun w1 => specIdent_nat rn w1 hr8
      obtain ⟨b, hbb⟩ : ∃ b, b = fallB xs' := ⟨_, rfl⟩
      have hC3 : ∀ (W : World) (a1 : Option Addr) (n1 c1 : Nat) (a2 : Option Addr) (n2 c2 B1 B2 : Nat), OwnI W B1 a1 n1 c1 xs'.reverse → OwnI W B2 a2 n2 c2 (ident rn) →
          Calls Try.prog 99 #[.slice a1 n1 c1, .slice a2 n2 c2] W fun e w' => e = .returned (.bool b) ∧ Quiet W w' := by
        intro W a1 n1 c1 a2 n2 c2 B1 B2 h1 h2
        have e : b = decide (xs'.reverse = ident rn) := by rw [hbb, ← fallB_rev, HR.out]
        rw [e]
        refine l2Same_any _ _ _ _ _ _ _ _ _ h1.ints h2.ints h1.1 h2.1 ?_ ?_
        · have h3 := h1.1; have h4 := HR.out; rw [List.length_reverse] at h3; omega
        · have h3 := h2.1; rw [length_ident] at h3; omega
      have HA' : Hid (b = true → ∀ r ∈ xss.take (k + 1), fallB r = true) := by
        intro hb1 r hr
        rw [take_snoc HX.out] at hr
        rcases List.mem_append.1 hr with h1 | h1
        · exact HA.out r h1
        · simp only [List.mem_singleton] at h1; rw [h1, ← hbb, hb1]
      have HFF : Hid (b = false → D = false) := fun h1 => HF.out ⟨xs', List.mem_of_getElem? HX.out, by rw [← hbb, h1]⟩
      have HC1 := Lib.hid hC1
      have HC2 := Lib.hid hC2
      have HC3 := Lib.hid hC3
      have hbD : Below w0.heap.size w0 wr.drew := hb.drew
      clear hC1 hC2 hC3 hr hbb
      cases b
      all_goals
        go_wp2_with fail
        go_region_law ((first
          | (go_simp; go_at_call 92; refine (HC1.out _ ((Below.refl _ _).drew)).mono ?_; rintro e w1 ⟨a1, n1, c1, rfl, ho1, hb1⟩; have hx1 : w1.cell? ⟨ab, ao + k, none⟩ = some (Value.slice ra rn rc) := (hb1.cell (p := ⟨ab, ao + k, none⟩) hlt2).trans hx)
          | (go_simp; go_at_call 93; refine (HC2.out _).mono ?_; rintro e w2 ⟨a2, n2, c2, rfl, ho2, hb2⟩; have ho3 := ho1.below hb2)
          | (go_simp; go_at_call 99; refine (HC3.out _ _ _ _ _ _ _ _ _ ho3 ho2).mono ?_; rintro e w3 ⟨rfl, hq3⟩)))
        all_goals
          have hbE : Below w0.heap.size w0 w3 := ((hbD.trans (hb1.mono hbD.size)).trans (hb2.mono (Nat.le_trans hbD.size hb1.size))).trans (hq3.below _)
          clear ho1 ho2 ho3 hb1 hb2 hq3 hx1
          first
          | (go_wp2
             go_roundw
             case rel => exact ⟨k + 1, by omega, by go_num, HA'.out trivial, hbE⟩
             case measure => simp [intOf]; omega)
          | (go_wp2
             go_ret
             exact ⟨ret_bool (HFF.out trivial).symm, hb0.trans (hbE.mono hb0.size)⟩)
    · obtain rfl : k = n0 := by omega
      have HE : Hid (D = decide (Perm8 xs)) := HT.out (by have := HA.out; rwa [List.take_of_length_le (by rw [HN.out]; exact Nat.le_refl _)] at this)
      have hI := spec_IsPerm a n c xs wr (h0.below hb)
      rw [← HE.out] at hI
      go_wp2_with fail
      refine hI.mono ?_
      rintro e w1 ⟨rfl, hb1⟩
      go_wp2
      go_ret
      exact ⟨rfl, (hb0.trans (hb.mono hb0.size)).trans (hb1.mono (Nat.le_trans hb0.size hb.size))⟩
end Go.Proofs.Ytmojniiimondfaa
