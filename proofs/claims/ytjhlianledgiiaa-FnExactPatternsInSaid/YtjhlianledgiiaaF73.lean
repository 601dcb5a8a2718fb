/- PatternsIn of the reference. No condition. -/
import Derived.Test.YtjhlianledgiiaaF70
namespace Go.Proofs.Ytjhlianledgiiaa
open Go.RowKit

theorem and1 (n : Int) : bits .and .i64 n 1 = n % 2 := by
  have h127 : (BitVec.ofInt 64 1).toNat = 2 ^ 1 - 1 := by decide
  have key : (BitVec.ofInt 64 n &&& BitVec.ofInt 64 1).toNat = (n % ((2 ^ 64 : Nat) : Int)).toNat % 2 ^ 1 := by
    rw [BitVec.toNat_and, BitVec.toNat_ofInt, h127, Nat.and_two_pow_sub_one_eq_mod]
  show IntKind.i64.wrap ((BitVec.ofInt 64 n &&& BitVec.ofInt 64 1).toNat : Nat) = n % 2
  rw [key, IntKind.wrap_i64]
  omega
theorem bit_is (s j : Nat) : (bits .and .i64 ((s : Int) / 2 ^ j) 1 == 1) = s.testBit j := by
  rw [and1, Nat.testBit_eq_decide_div_mod_eq]
  have e : ((s : Int) / 2 ^ j) % 2 = ((s / 2 ^ j % 2 : Nat) : Int) := by simp
  rw [e]
  by_cases h : s / 2 ^ j % 2 = 1
  · rw [h]; rfl
  · rw [decide_eq_false h, beq_eq_false_iff_ne]
    intro hh
    exact h (by exact_mod_cast hh)
theorem wrapPow (n : Nat) (h : n ≤ 8) : wrap64 (2 ^ n) = ((2 ^ n : Nat) : Int) := by
  have : n = 0 ∨ n = 1 ∨ n = 2 ∨ n = 3 ∨ n = 4 ∨ n = 5 ∨ n = 6 ∨ n = 7 ∨ n = 8 := by omega
  rcases this with rfl | rfl | rfl | rfl | rfl | rfl | rfl | rfl | rfl <;> simp [wrap64]
set_option maxHeartbeats 1600000 in
theorem spec_PatternsIn_main (a : Option Addr) (n c : Nat) (xs : List Int) (kk : Nat) (w : World) (hh : SlI w a n c xs) (HP : Hid (Perm8 xs)) (hkn : kk ≤ n) :
    Calls Try.prog 18 #[.slice a n c, .int .i64 (kk : Int)] w (RetII w (ordL (ptsA xs kk))) := by
  have HN : Hid (xs.length = n) := hh.2.1
  have hn8 : n ≤ 8 := by have h1 := HP.out.1; have h2 := HN.out; omega
  have HE : Hid (ordL (ptsA xs kk) = ordL (ptsB xs kk (2 ^ n))) := by show _ = _; rw [pts_same, HN.out]
  obtain ⟨E, hE⟩ : ∃ E, E = ordL (ptsA xs kk) := ⟨_, rfl⟩
  rw [← hE] at HE ⊢
  clear hE
  have HW : Hid (wrap64 (2 ^ n) = ((2 ^ n : Nat) : Int)) := wrapPow n hn8
  have hI := (spec_IsPerm a n c xs _ (hh.below (below_alloc w (.cells #[] 22))))
  have h := Lib.hid hh; clear hh
  rw [decide_eq_true HP.out] at hI
  go_enter Try.func18, Try.ntmps18
  go_wp2_with fail
  refine hI.mono ?_
  rintro e w1 ⟨rfl, hb1⟩
  have hI2 := l1In_any (kk : Int) 0 (n : Int) true (by show true = _; rw [decide_eq_true]; omega) w1
  have ho1 := (OwnII.start w).below hb1
  clear hI
  go_wp2_with fail
  refine hI2.mono ?_
  rintro e w2 ⟨rfl, rfl⟩
  clear hI2
  go_wp2
  go_loopw [5, 6, 7, 8] (fun v i _ _ wr => ∃ (s n1 c1 g1 : Nat), s ≤ 2 ^ n ∧ i = .int .i64 (s : Int) ∧ v = .slice (some ⟨g1, 0, none⟩) n1 c1 ∧ OwnII wr w.heap.size wr.heap.size (some ⟨g1, 0, none⟩) n1 c1 (ordL (ptsB xs kk s)) ∧ Hid (Below w.heap.size w wr)) (fun _ i _ _ _ => 256 - (intOf i).toNat)
  case atStart => exact ⟨0, 0, 0, w.heap.size, Nat.zero_le _, rfl, rfl, by simpa [ptsB, ordL] using ho1.mono (Nat.le_refl _) hb1.size, (below_alloc w _).trans (hb1.mono (by simp))⟩
  case round =>
    obtain ⟨s, n1, c1, g1, hs, rfl, rfl, ho, HB⟩ := hrel
    by_cases hlt : s < 2 ^ n
    · have hg : (s : Int) < wrap64 (2 ^ n) := by rw [HW.out]; exact_mod_cast hlt
      obtain ⟨wq, rfl⟩ : ∃ wq : World, wq = wr := ⟨_, rfl⟩
      have hszr : w.heap.size ≤ wq.heap.size := HB.out.size
      have HSx : Hid (SlI wq a n c xs) := h.out.below HB.out
      have HOo := Lib.hid ho
      clear ho hlt
      go_wp2
      go_loopw [7, 8] (fun v i wr => ∃ (j q c2 : Nat) (a2 : Option Addr), j ≤ n ∧ q ≤ j ∧ i = .int .i64 (j : Int) ∧ v = .slice a2 q c2 ∧ OwnI wr wq.heap.size a2 q c2 (mkL xs s j) ∧ Below wq.heap.size wq wr) (fun _ i _ => n - (intOf i).toNat)
      case atStart => exact ⟨0, 0, 0, _, Nat.zero_le _, Nat.le_refl _, rfl, rfl, OwnI.lit0 wq, below_alloc _ _⟩
      case round =>
        obtain ⟨j, q, c2, a2, hj, hqj, rfl, rfl, hi, hbi⟩ := hrel
        by_cases hlj : j < n
        · obtain ⟨bb, bo, y, rfl, hy, HY⟩ := (HSx.out.1.below hbi).at (i := j) (by rw [HN.out]; exact hlj)
          have hbit := bit_is s j
          have HG : Hid (xs.getD j 0 = y) := getD_of HY.out
          cases hb : s.testBit j with
          | true =>
            rw [hb] at hbit
            have E : Hid (mkL xs s (j + 1) = mkL xs s j ++ [y]) := by show _ = _; rw [mkL_yes hb, HG.out]
            clear hb
            go_wp2_with (at_builtin; refine wpList_appI rfl _ _ rfl wq.heap.size _ _ _ _ rfl hi _ rfl (by omega) hbi.size ?_)
            intro a' c' w3 h1 h3
            rw [← E.out] at h1
            have hb3 := hbi.trans h3
            clear hbit hbi hi
            go_wp2
            go_roundw
            case rel => exact ⟨j + 1, q + 1, c', a', by omega, by omega, by go_num, rfl, h1, hb3⟩
            case measure => simp [intOf]; omega
          | false =>
            rw [hb] at hbit
            have E : Hid (mkL xs s (j + 1) = mkL xs s j) := mkL_no hb
            clear hb
            go_wp2
            go_roundw
            case rel => exact ⟨j + 1, q, c2, a2, by omega, by omega, by go_num, rfl, by rw [E.out]; exact hi, hbi⟩
            case measure => simp [intOf]; omega
        · obtain rfl : j = n := by omega
          have HLq : Hid ((mkL xs s j).length = q) := hi.1
          have hlt : s < 2 ^ j := by rw [HW.out] at hg; exact_mod_cast hg
          have hs256 : s < 256 := by have h9 := pow8 hn8; omega
          by_cases hqk : q = kk
          · subst hqk
            have HE2 : Hid (ordL (ptsB xs q (s + 1)) = putL (ordL (ptsB xs q s)) (pat (mkL xs s j))) := by
              show _ = _
              rw [ptsB_yes (by rw [HN.out]; exact HLq.out), HN.out]
              simp [ordL, List.foldl_append]
            have hP := l2Pattern_any _ _ _ _ _ (hi.sl (by omega))
            have hszi := hbi.size
            clear hi
            go_wp2_with fail
            refine hP.mono ?_
            rintro e w5 ⟨a5, n5, c5, rfl, ho5, hb5⟩
            have hbb : Below wq.heap.size wq w5 := hbi.trans (hb5.mono hszi)
            have hs5 := hb5.size
            have ho1 := (HOo.out.below hbb).mono (Nat.le_refl _) hbb.size
            have hn1 : n1 ≤ 256 := by
              have h1 := ho1.len
              have h2 := length_ordL' (ptsB xs q s)
              have h3 := length_ptsB xs q s
              have h4 := pow8 hn8
              omega
            have H8 : Hid (∀ x ∈ ordL (ptsB xs q s), x.length ≤ 2097152) := fun x hx => by
              have := rows_ordL _ (rows_ptsB (by rw [HN.out]; exact hn8) q s) x hx
              omega
            have hn5 : n5 ≤ 8 := by
              have h1 := ho5.1; have h2 := HLq.out
              rw [length_pat] at h1; omega
            have hsl5 := ho5.sl (by omega)
            have HB5 : Hid (Below w.heap.size w w5) := HB.out.trans (hbb.mono hszr)
            have hg1 : w.heap.size ≤ g1 := (ho1.block g1 rfl).1
            obtain ⟨rs0, hrs0⟩ := ho1
            have hC := l3Put_any g1 n1 c1 w.heap.size w5.heap.size rs0 (ordL (ptsB xs q s)) a5 n5 c5 (pat (mkL xs s j)) w5 hrs0 (by omega) H8 hsl5 (Nat.le_refl _) (by omega)
            clear hP ho5 hb5 hbb hbi HOo hrs0 hsl5
            go_wp2_with fail
            refine hC.mono ?_
            rintro e w6 ⟨g6, n6, c6, rfl, ho6, hg6, hf6⟩
            rw [← HE2.out] at ho6
            have HB6 : Hid (Below w.heap.size w w6) := HB5.out.trans (grownBy_below hg6 (by omega) (fun k hk => by cases hk; exact hg1))
            have HO6 := Lib.hid ho6
            clear hC ho6 hg6 hf6
            go_wp2
            go_roundw
            case rel => exact ⟨s + 1, n6, c6, g6, by omega, by go_num, rfl, HO6.out, HB6⟩
            case measure => have h9 := pow8 hn8; have h10 := hlt; simp [intOf]; omega
          · have HE2 : Hid (ordL (ptsB xs kk (s + 1)) = ordL (ptsB xs kk s)) := by
              show _ = _
              rw [ptsB_no (by rw [HN.out, HLq.out]; exact hqk)]
            have hqe : ((q : Int) == (kk : Int)) = false := by rw [beq_eq_false_iff_ne]; omega
            have ho1 := (HOo.out.below hbi).mono (Nat.le_refl _) hbi.size
            have HO1 := Lib.hid ho1
            have HB1 : Hid (Below w.heap.size w wr) := HB.out.trans (hbi.mono hszr)
            clear ho1 hi HOo hbi
            go_wp2
            go_roundw
            case rel => exact ⟨s + 1, n1, c1, g1, by omega, by go_num, rfl, by rw [HE2.out]; exact HO1.out, HB1⟩
            case measure => have h9 := pow8 hn8; have h10 := hlt; simp [intOf]; omega
    · obtain rfl : s = 2 ^ n := by omega
      have hg : ¬ (((2 ^ n : Nat) : Int) < wrap64 (2 ^ n)) := by rw [HW.out]; omega
      have HF : Hid (OwnII wr w.heap.size wr.heap.size (some ⟨g1, 0, none⟩) n1 c1 E) := by rw [HE.out]; exact ho
      clear ho
      go_wp2
      go_ret
      exact ⟨_, _, _, rfl, HF.out, HB.out⟩

set_option maxHeartbeats 1000000 in
theorem spec_PatternsIn (a : Option Addr) (n c : Nat) (xs : List Int) (k : Int) (w : World) (h : SlI w a n c xs) (_hk : (Lit.int .i64 k).wf = true) :
    Calls Try.prog 18 #[.slice a n c, .int .i64 k] w (RetII w (ptsP xs k)) := by
  have HN : Hid (xs.length = n) := h.2.1
  by_cases hok : PtOk xs k
  · obtain ⟨kk, rfl⟩ : ∃ kk : Nat, k = (kk : Int) := ⟨k.toNat, by have := hok.2.1; omega⟩
    have hk : kk ≤ n := by have h1 := hok.2.2; have h2 := HN.out; omega
    rw [ptsP_yes hok.1 (by rw [HN.out]; exact hk)]
    exact spec_PatternsIn_main a n c xs kk w h hok.1 hk
  · have hI := (spec_IsPerm a n c xs _ (h.below (below_alloc w (.cells #[] 22))))
    have e : ptsP xs k = [] := if_neg hok
    rw [e]; clear e
    have hba := below_alloc w (.cells #[] 22)
    have hos := OwnII.start w
    by_cases hp : Perm8 xs
    · rw [decide_eq_true hp] at hI
      have hno : ¬ (0 ≤ k ∧ k ≤ (n : Int)) := fun hh => hok ⟨hp, hh.1, by rw [HN.out]; exact hh.2⟩
      clear hok
      go_enter Try.func18, Try.ntmps18
      go_wp2_with fail
      refine hI.mono ?_
      rintro e w1 ⟨rfl, hb1⟩
      have hI2 := l1In_any k 0 (n : Int) false (by show false = _; rw [decide_eq_false hno]) w1
      clear hI hno
      go_wp2_with fail
      refine hI2.mono ?_
      rintro e w2 ⟨rfl, rfl⟩
      go_wp2
      go_ret
      exact ⟨_, _, _, rfl, (hos.below hb1).mono (Nat.le_refl _) hb1.size, hba.trans (hb1.mono hba.size)⟩
    · rw [decide_eq_false hp] at hI
      go_enter Try.func18, Try.ntmps18
      go_wp2_with fail
      refine hI.mono ?_
      rintro e w1 ⟨rfl, hb1⟩
      go_wp2
      go_ret
      exact ⟨_, _, _, rfl, (hos.below hb1).mono (Nat.le_refl _) hb1.size, hba.trans (hb1.mono hba.size)⟩
end Go.Proofs.Ytjhlianledgiiaa
