/- ClosureOf, of the program and of the reference. No condition. -/
import Derived.Test.YtmojniiimondfaaF43
namespace Go.Proofs.Ytmojniiimondfaa
open Go.RowKit

set_option maxHeartbeats 1000000 in
theorem impl_ClosureOf (a : Option Addr) (n c : Nat) (xs : List Int) (f t : Int) (w : World) (h : SlI w a n c xs) (_hf : (Lit.int .i64 f).wf = true) (_ht : (Lit.int .i64 t).wf = true) :
    Calls Try.prog 20 #[.slice a n c, .int .i64 f, .int .i64 t] w (RetIB w (closP xs f t) (decide (ClOk xs f t))) := by
  have HN : Hid (xs.length = n) := h.2.1
  obtain ⟨lo, hi, hlh, hlo, hhi, hcase⟩ := lo_hi f t
  have hI := impl_IsPerm a n c xs w h
  by_cases hok : ClOk xs f t
  · obtain ⟨x0, hx0⟩ : ∃ x0 : Nat, lo = (x0 : Int) + 1 := ⟨(lo - 1).toNat, by have := hok.2.1; omega⟩
    obtain ⟨y0, hy0⟩ : ∃ y0 : Nat, hi = (y0 : Int) := ⟨hi.toNat, by omega⟩
    have e : closP xs f t = closR xs x0 y0 := by
      unfold closP; rw [if_pos hok, ← hlo, ← hhi, hx0, hy0]; congr 1
    rw [e, decide_eq_true hok]
    exact impl_clos_main a n c xs x0 y0 lo hi f t w h (by omega) (by have h1 := hok.2.2; have h2 := HN.out; omega) hx0 hy0 hok.1 hcase
  · have e : closP xs f t = [] := if_neg hok
    rw [e, decide_eq_false hok]
    by_cases hp : Perm8 xs
    · rw [decide_eq_true hp] at hI
      by_cases h1 : lo < 1
      · have h1' : decide (lo < 1) = true := decide_eq_true h1
        clear hok hp e hlo hhi
        rcases hcase with ⟨rfl, rfl, hl⟩ | ⟨rfl, rfl, hl⟩ | ⟨rfl, rfl, hl⟩
        all_goals
          go_enter Try.func20, Try.ntmps20
          go_wp2_with fail
          refine hI.mono ?_
          rintro e w1 ⟨rfl, hb1⟩
          go_wp2
          go_ret2
          exact ⟨none, 0, 0, rfl, OwnI.nil _ _, hb1⟩
      · have h2 : (n : Int) < hi := by
          have h3 := HN.out
          rcases Int.lt_or_le (n : Int) hi with h4 | h4
          · exact h4
          · exact absurd ⟨hp, by omega, by omega⟩ hok
        clear hok hp e hlo hhi
        rcases hcase with ⟨rfl, rfl, hl⟩ | ⟨rfl, rfl, hl⟩ | ⟨rfl, rfl, hl⟩
        all_goals
          go_enter Try.func20, Try.ntmps20
          go_wp2_with fail
          refine hI.mono ?_
          rintro e w1 ⟨rfl, hb1⟩
          go_wp2
          go_ret2
          exact ⟨none, 0, 0, rfl, OwnI.nil _ _, hb1⟩
    · rw [decide_eq_false hp] at hI
      clear hok e hp
      go_enter Try.func20, Try.ntmps20
      go_wp2_with fail
      refine hI.mono ?_
      rintro e w1 ⟨rfl, hb1⟩
      go_wp2
      go_ret2
      exact ⟨none, 0, 0, rfl, OwnI.nil _ _, hb1⟩

set_option maxHeartbeats 2000000 in
theorem spec_ClosureOf (a : Option Addr) (n c : Nat) (xs : List Int) (f t : Int) (w : World) (h : SlI w a n c xs) (_hf : (Lit.int .i64 f).wf = true) (_ht : (Lit.int .i64 t).wf = true) :
    Calls Try.prog 21 #[.slice a n c, .int .i64 f, .int .i64 t] w (RetIB w (closP xs f t) (decide (ClOk xs f t))) := by
  have HN : Hid (xs.length = n) := h.2.1
  have hI := spec_IsPerm a n c xs w h
  by_cases hok : ClOk xs f t
  · obtain ⟨x0, hx0⟩ : ∃ x0 : Nat, min f t = (x0 : Int) + 1 := ⟨(min f t - 1).toNat, by have := hok.2.1; omega⟩
    obtain ⟨y0, hy0⟩ : ∃ y0 : Nat, max f t = (y0 : Int) := ⟨(max f t).toNat, by have := hok.2.1; omega⟩
    have e : closP xs f t = closR xs x0 y0 := by
      unfold closP; rw [if_pos hok, hx0, hy0]; congr 1
    rw [e, decide_eq_true hok]
    rw [decide_eq_true hok.1] at hI
    have hp : Hid (Perm8 xs) := hok.1
    have HU : Hid (Upb 1048576 xs) := hp.out.upb
    have h8 : n ≤ 8 := by have h3 := hp.out.1; have h4 := HN.out; omega
    have hxy : x0 < y0 := by omega
    have hyn : y0 ≤ n := by have h1 := hok.2.2; have h2 := HN.out; omega
    have HR : Hid (∀ x y : Nat, clos xs n (x0, y0) = (x, y) → closR xs x0 y0 = [(x : Int) + 1, (y : Int)]) := fun x y e => by unfold closR; rw [HN.out, e]
    generalize closR xs x0 y0 = R at *
    have HF : Hid (∀ W, Calls Try.prog 73 #[.int .i64 f, .int .i64 1, .int .i64 (n : Int)] W fun e w' => e = .returned (.bool true) ∧ w' = W) := fun W => l1In_any _ _ _ true (decide_eq_true (by have h1 := hok.2; have h2 := HN.out; omega)).symm W
    have HT : Hid (∀ W, Calls Try.prog 73 #[.int .i64 t, .int .i64 1, .int .i64 (n : Int)] W fun e w' => e = .returned (.bool true) ∧ w' = W) := fun W => l1In_any _ _ _ true (decide_eq_true (by have h1 := hok.2; have h2 := HN.out; omega)).symm W
    have HMi : Hid (∀ W, Calls Try.prog 74 #[.int .i64 f, .int .i64 t] W fun e w' => e = .returned (.int .i64 ((x0 : Int) + 1)) ∧ w' = W) := fun W => by have := l1Min_any f t W; rwa [hx0] at this
    have HMa : Hid (∀ W, Calls Try.prog 66 #[.int .i64 f, .int .i64 t] W fun e w' => e = .returned (.int .i64 (y0 : Int)) ∧ w' = W) := fun W => by have := l1Max_any f t W; rwa [hy0] at this
    clear hok hx0 hy0 e
    go_enter Try.func21, Try.ntmps21
    go_wp2_with fail
    refine hI.mono ?_
    rintro e w1 ⟨rfl, hb1⟩
    have hs := h.below hb1
    clear hI h
    go_wp2_with fail
    refine (HF.out _).mono ?_
    rintro e w2 ⟨rfl, hw2⟩
    obtain rfl : w1 = w2 := hw2.symm
    go_wp2_with fail
    refine (HT.out _).mono ?_
    rintro e w2 ⟨rfl, hw2⟩
    obtain rfl : w1 = w2 := hw2.symm
    go_wp2_with fail
    refine (HMi.out _).mono ?_
    rintro e w2 ⟨rfl, hw2⟩
    obtain rfl : w1 = w2 := hw2.symm
    go_wp2_with fail
    refine (HMa.out _).mono ?_
    rintro e w2 ⟨rfl, hw2⟩
    obtain rfl : w1 = w2 := hw2.symm
    clear HF HT HMi HMa
    go_wp2
    go_loop [8, 9] (fun a b => ∃ x y g : Nat, x < y ∧ y ≤ n ∧ n - (y - x) ≤ g ∧ a = .int .i64 x ∧ b = .int .i64 ((y : Int) - 1) ∧ Hid (clos xs n (x0, y0) = clos xs g (x, y))) (fun a b => (n + intOf a - intOf b).toNat)
    case atStart => exact ⟨x0, y0, n, hxy, hyn, by omega, by go_num, by go_num, rfl⟩
    case round =>
      obtain ⟨x, y, g, hxy', hyn', hg, rfl, rfl, HC⟩ := hrel
      obtain ⟨m, rfl⟩ : ∃ m, y = x + m := ⟨y - x, by omega⟩
      have ey : ((x + m : Nat) : Int) - 1 = (x : Int) + (m : Int) - 1 := by omega
      have hI := l5Run_any a n c x m xs w1 hs HU (by omega) hyn' (((x + m : Nat) : Int) - 1) ey
      cases hr : runB xs x m
      · rw [hr] at hI
        have hgr := stp_grows (xs := xs) (a := x) (b := x + m) hp.out.2 (by omega) (by rw [HN.out]; exact hyn') (by rw [Nat.add_sub_cancel_left]; exact hr)
        obtain ⟨g', rfl⟩ : ∃ g', g = g' + 1 := ⟨g - 1, by rw [HN.out] at hgr; omega⟩
        have HC' : Hid (clos xs n (x0, y0) = clos xs g' (stp xs (x, x + m))) := by
          show _ = _; rw [HC.out, clos_zero _ _ _ (by rw [Nat.add_sub_cancel_left]; exact hr)]
        obtain ⟨ab, ao, v0, rfl, hv0, HV0⟩ := hs.1.at (i := x) (by rw [HN.out]; omega)
        have E0 : Hid (v0 = xs.getD x 0) := (getD_of HV0.out).symm
        have HGR := Lib.hid hgr
        clear hr hgr ey
        go_wp2_with fail
        refine hI.mono ?_
        rintro e w2 ⟨rfl, hw2⟩
        obtain rfl : w1 = w2 := hw2.symm
        clear hI
        go_wp2
        go_loop [10, 11, 12] (fun l u i => ∃ j : Nat, j ≤ m ∧ i = .int .i64 ((x : Int) + (j : Int)) ∧ l = .int .i64 (mnAt xs x j) ∧ u = .int .i64 (mxAt xs x j)) (fun _ _ i => x + m - (intOf i).toNat)
        case atStart => exact ⟨0, Nat.zero_le _, by go_num, by rw [E0.out]; rfl, by rw [E0.out]; rfl⟩
        case round =>
          obtain ⟨j, hj, rfl, rfl, rfl⟩ := hrel
          obtain ⟨l, hl'⟩ : ∃ l, l = mnAt xs x j := ⟨_, rfl⟩
          obtain ⟨u, hu'⟩ : ∃ u, u = mxAt xs x j := ⟨_, rfl⟩
          rw [← hl', ← hu']
          have HL := Lib.hid hl'; clear hl'
          have HU' := Lib.hid hu'; clear hu'
          by_cases hjm : j < m
          · obtain ⟨v, hv, HV⟩ := hs.1.cell (i := x + j) (by rw [HN.out]; omega)
            have hcmp : (x : Int) + (j : Int) ≤ (x : Int) + (m : Int) - 1 := by omega
            have e1 : Hid (mnAt xs x (j + 1) = min l v) := by show _ = _; rw [HL.out]; simp [mnAt, HV.out]
            have e2 : Hid (mxAt xs x (j + 1) = max u v) := by show _ = _; rw [HU'.out]; simp [mxAt, HV.out]
            go_wp2_with fail
            refine (l1Min_any l v _).mono ?_
            rintro e w2 ⟨rfl, hw2⟩
            obtain rfl : w1 = w2 := hw2.symm
            go_wp2_with fail
            refine (l1Max_any u v _).mono ?_
            rintro e w2 ⟨rfl, hw2⟩
            obtain rfl : w1 = w2 := hw2.symm
            go_wp2
            go_round
            case rel => exact ⟨j + 1, by omega, by go_num, by rw [e1.out], by rw [e2.out]⟩
            case measure => simp [intOf]; omega
          · obtain rfl : j = m := by omega
            have hcmp : ¬ ((x : Int) + (j : Int) ≤ (x : Int) + (j : Int) - 1) := by omega
            have HS : Hid (stp xs (x, x + j) = wid xs l u (x, x + j) n) := by
              show _ = _; unfold stp; rw [HN.out, Nat.add_sub_cancel_left, ← HL.out, ← HU'.out]
            go_wp2
            go_loop [8, 9, 13] (fun a b i => ∃ k p q : Nat, k ≤ n ∧ p ≤ n ∧ q ≤ n ∧ i = .int .i64 k ∧ a = .int .i64 p ∧ b = .int .i64 ((q : Int) - 1) ∧ Hid (wid xs l u (x, x + j) k = (p, q))) (fun _ _ i => n - (intOf i).toNat)
            case atStart => exact ⟨0, x, x + j, Nat.zero_le _, by omega, hyn', rfl, rfl, by go_num, rfl⟩
            case round =>
              obtain ⟨k, p, q, hk, hpn, hqn2, rfl, rfl, rfl, HW⟩ := hrel
              by_cases hlt : k < n
              · obtain ⟨v, hv, HV⟩ := hs.1.cell (i := k) (by rw [HN.out]; exact hlt)
                have e : wid xs l u (x, x + j) (k + 1) = if l ≤ v ∧ v ≤ u then (min p k, max q (k + 1)) else (p, q) := by
                  simp only [wid, HW.out, getD_of HV.out]
                by_cases hl1 : l ≤ v ∧ v ≤ u
                · have HIn : Hid (∀ W, Calls Try.prog 73 #[.int .i64 v, .int .i64 l, .int .i64 u] W fun e w' => e = .returned (.bool true) ∧ w' = W) := fun W => l1In_any _ _ _ true (decide_eq_true hl1).symm W
                  rw [if_pos hl1] at e
                  have HE := Lib.hid e; clear e hl1
                  go_wp2_with fail
                  refine (HIn.out _).mono ?_
                  rintro e w2 ⟨rfl, hw2⟩
                  obtain rfl : w1 = w2 := hw2.symm
                  go_wp2_with fail
                  refine (l1Min_any (p : Int) (k : Int) _).mono ?_
                  rintro e w2 ⟨rfl, hw2⟩
                  obtain rfl : w1 = w2 := hw2.symm
                  go_wp2_with fail
                  refine (l1Max_any ((q : Int) - 1) (k : Int) _).mono ?_
                  rintro e w2 ⟨rfl, hw2⟩
                  obtain rfl : w1 = w2 := hw2.symm
                  go_wp2
                  go_round
                  case rel => exact ⟨k + 1, min p k, max q (k + 1), by omega, by omega, by omega, by go_num, congrArg _ (by omega), congrArg _ (by omega), HE⟩
                  case measure => simp [intOf]; omega
                · have HIn : Hid (∀ W, Calls Try.prog 73 #[.int .i64 v, .int .i64 l, .int .i64 u] W fun e w' => e = .returned (.bool false) ∧ w' = W) := fun W => l1In_any _ _ _ false (decide_eq_false hl1).symm W
                  rw [if_neg hl1] at e
                  have HE := Lib.hid e; clear e hl1
                  go_wp2_with fail
                  refine (HIn.out _).mono ?_
                  rintro e w2 ⟨rfl, hw2⟩
                  obtain rfl : w1 = w2 := hw2.symm
                  go_wp2
                  go_round
                  case rel => exact ⟨k + 1, p, q, by omega, by omega, by omega, by go_num, rfl, rfl, HE⟩
                  case measure => simp [intOf]; omega
              · obtain rfl : k = n := by omega
                have HST : Hid (stp xs (x, x + j) = (p, q)) := by show _ = _; rw [HS.out, HW.out]
                have hgr := HGR.out
                rw [HST.out, HN.out] at hgr
                rw [HST.out] at HC'
                simp only at hgr
                obtain ⟨r1, r2, r3, r4⟩ := hgr
                go_wp2
                go_round
                case rel => exact ⟨p, q, g', by omega, by omega, by omega, rfl, rfl, HC'⟩
                case measure => simp [intOf]; omega
      · rw [hr] at hI
        have HE : Hid (clos xs n (x0, y0) = (x, x + m)) := by
          show _ = _; rw [HC.out, clos_run (by rw [Nat.add_sub_cancel_left]; exact hr)]
        clear hr
        go_wp2_with fail
        refine hI.mono ?_
        rintro e w2 ⟨rfl, hw2⟩
        obtain rfl : w1 = w2 := hw2.symm
        clear hI
        have hrow := OwnI.lit2 w1 ((x : Int) + 1) ((x : Int) + (m : Int))
        go_wp2
        go_ret2
        refine ⟨_, _, _, rfl, ?_, hb1.alloc hb1.size _⟩
        rw [HR.out x (x + m) HE.out]
        have := hrow.mono hb1.size
        simpa using this
  · have e : closP xs f t = [] := if_neg hok
    rw [e, decide_eq_false hok]
    clear e
    have H1 : ∀ b, Hid (b = decide (1 ≤ f ∧ f ≤ (n : Int))) → Hid (∀ W, Calls Try.prog 73 #[.int .i64 f, .int .i64 1, .int .i64 (n : Int)] W fun e w' => e = .returned (.bool b) ∧ w' = W) := fun b hb W => l1In_any _ _ _ b hb W
    have H2 : ∀ b, Hid (b = decide (1 ≤ t ∧ t ≤ (n : Int))) → Hid (∀ W, Calls Try.prog 73 #[.int .i64 t, .int .i64 1, .int .i64 (n : Int)] W fun e w' => e = .returned (.bool b) ∧ w' = W) := fun b hb W => l1In_any _ _ _ b hb W
    by_cases hp : Perm8 xs
    · rw [decide_eq_true hp] at hI
      by_cases h1 : 1 ≤ f ∧ f ≤ (n : Int)
      · have h2 : ¬ (1 ≤ t ∧ t ≤ (n : Int)) := fun h2 => hok ⟨hp, by omega, by have := HN.out; omega⟩
        have G1 := H1 true (decide_eq_true h1).symm
        have G2 := H2 false (decide_eq_false h2).symm
        clear H1 H2 hok hp h1 h2
        go_enter Try.func21, Try.ntmps21
        go_wp2_with fail
        refine hI.mono ?_
        rintro e w1 ⟨rfl, hb1⟩
        go_wp2_with fail
        refine (G1.out _).mono ?_
        rintro e w2 ⟨rfl, hw2⟩
        obtain rfl : w1 = w2 := hw2.symm
        go_wp2_with fail
        refine (G2.out _).mono ?_
        rintro e w2 ⟨rfl, hw2⟩
        obtain rfl : w1 = w2 := hw2.symm
        have ho := OwnI.lit0 w1
        go_wp2
        go_ret2
        exact ⟨_, _, _, rfl, ho.mono hb1.size, hb1.alloc hb1.size _⟩
      · have G1 := H1 false (decide_eq_false h1).symm
        clear H1 H2 hok hp h1
        go_enter Try.func21, Try.ntmps21
        go_wp2_with fail
        refine hI.mono ?_
        rintro e w1 ⟨rfl, hb1⟩
        go_wp2_with fail
        refine (G1.out _).mono ?_
        rintro e w2 ⟨rfl, hw2⟩
        obtain rfl : w1 = w2 := hw2.symm
        have ho := OwnI.lit0 w1
        go_wp2
        go_ret2
        exact ⟨_, _, _, rfl, ho.mono hb1.size, hb1.alloc hb1.size _⟩
    · rw [decide_eq_false hp] at hI
      clear H1 H2 hok hp
      go_enter Try.func21, Try.ntmps21
      go_wp2_with fail
      refine hI.mono ?_
      rintro e w1 ⟨rfl, hb1⟩
      have ho := OwnI.lit0 w1
      go_wp2
      go_ret2
      exact ⟨_, _, _, rfl, ho.mono hb1.size, hb1.alloc hb1.size _⟩
end Go.Proofs.Ytmojniiimondfaa
