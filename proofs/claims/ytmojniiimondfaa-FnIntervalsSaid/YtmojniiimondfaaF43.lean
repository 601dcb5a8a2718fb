/- ClosureOf of the program. No condition. -/
import Derived.Test.YtmojniiimondfaaF38
import Derived.Test.YtmojniiimondfaaF20
namespace Go.Proofs.Ytmojniiimondfaa
open Go.RowKit

def ClOk (xs : List Int) (f t : Int) : Prop := Perm8 xs ∧ 1 ≤ min f t ∧ max f t ≤ (xs.length : Int)
instance (xs : List Int) (f t : Int) : Decidable (ClOk xs f t) := inferInstanceAs (Decidable (_ ∧ _))
def closR (xs : List Int) (x y : Nat) : List Int := [((clos xs xs.length (x, y)).1 : Int) + 1, ((clos xs xs.length (x, y)).2 : Int)]
def closP (xs : List Int) (f t : Int) : List Int := if ClOk xs f t then closR xs ((min f t).toNat - 1) (max f t).toNat else []
theorem length_closP (xs : List Int) (f t : Int) : (closP xs f t).length ≤ 2 := by
  unfold closP; split <;> simp [closR]
/-- Two numbers, the lesser and the greater. -/
theorem lo_hi (f t : Int) : ∃ lo hi : Int, lo ≤ hi ∧ lo = min f t ∧ hi = max f t ∧ ((f = lo ∧ t = hi ∧ lo < hi) ∨ (f = hi ∧ t = lo ∧ lo < hi) ∨ (f = lo ∧ t = lo ∧ hi = lo)) :=
  ⟨min f t, max f t, by omega, rfl, rfl, by omega⟩
theorem clos_zero (xs : List Int) (s : Nat × Nat) (f : Nat) (h : runB xs s.1 (s.2 - s.1) = false) : clos xs (f + 1) s = clos xs f (stp xs s) := by
  simp [clos, h]

set_option maxHeartbeats 2000000 in
theorem impl_clos_main (a : Option Addr) (n c : Nat) (xs : List Int) (x0 y0 : Nat) (lo hi f t : Int) (w : World) (h : SlI w a n c xs) (hxy : x0 < y0) (hyn : y0 ≤ n) (h1 : lo = (x0 : Int) + 1) (h2 : hi = (y0 : Int)) (hp : Hid (Perm8 xs))
    (hcase : (f = lo ∧ t = hi ∧ lo < hi) ∨ (f = hi ∧ t = lo ∧ lo < hi) ∨ (f = lo ∧ t = lo ∧ hi = lo)) :
    Calls Try.prog 20 #[.slice a n c, .int .i64 f, .int .i64 t] w (RetIB w (closR xs x0 y0) true) := by
  have HN : Hid (xs.length = n) := h.2.1
  have hI := impl_IsPerm a n c xs w h
  rw [decide_eq_true hp.out] at hI
  have HU : Hid (Upb 1048576 xs) := hp.out.upb
  have h8 : n ≤ 8 := by have h3 := hp.out.1; have h4 := HN.out; omega
  have HR : Hid (∀ x y : Nat, clos xs n (x0, y0) = (x, y) → closR xs x0 y0 = [(x : Int) + 1, (y : Int)]) := fun x y e => by unfold closR; rw [HN.out, e]
  generalize closR xs x0 y0 = R at *
  rcases hcase with ⟨rfl, rfl, hl⟩ | ⟨rfl, rfl, hl⟩ | ⟨rfl, rfl, hl⟩
  all_goals
    subst h1
    try subst h2
    have g1 : decide ((x0 : Int) + 1 < 1) = false := by rw [decide_eq_false_iff_not]; omega
    have g3 : decide (n < y0) = false := by rw [decide_eq_false_iff_not]; omega
    go_enter Try.func20, Try.ntmps20
    go_wp2_with fail
    refine hI.mono ?_
    rintro e w1 ⟨rfl, hb1⟩
    have hs := h.below hb1
    clear hI h
    have hnc := hs.2.2.2.1
    go_wp2
    go_loopw [8, 9] (fun a b wr => ∃ x y g : Nat, x < y ∧ y ≤ n ∧ n - (y - x) ≤ g ∧ a = .int .i64 x ∧ b = .int .i64 y ∧ Hid (clos xs n (x0, y0) = clos xs g (x, y)) ∧ Quiet w1 wr) (fun a b _ => (n + intOf a - intOf b).toNat)
    case atStart => exact ⟨x0, y0, n, hxy, hyn, by omega, by go_num, by go_num, rfl, Quiet.refl _⟩
    case round =>
      obtain ⟨x, y, g, hxy', hyn', hg, rfl, rfl, HC, hq⟩ := hrel
      have hsr := hs.below (hq.below _)
      obtain ⟨m, rfl⟩ : ∃ m, y = x + m := ⟨y - x, by omega⟩
      have hI := isInterval_any a n c x m xs wr hsr HU (by omega) hyn' ((x : Int) + (m : Int)) rfl
      cases hr : runB xs x m
      · rw [hr] at hI
        have hgr := stp_grows (xs := xs) (a := x) (b := x + m) hp.out.2 (by omega) (by rw [HN.out]; exact hyn') (by rw [Nat.add_sub_cancel_left]; exact hr)
        obtain ⟨g', rfl⟩ : ∃ g', g = g' + 1 := ⟨g - 1, by rw [HN.out] at hgr; omega⟩
        have HC' : Hid (clos xs n (x0, y0) = clos xs g' (stp xs (x, x + m))) := by
          show _ = _; rw [HC.out, clos_zero _ _ _ (by rw [Nat.add_sub_cancel_left]; exact hr)]
        obtain ⟨ab, ao, v0, rfl, hv0, _⟩ := hsr.1.at (i := x) (by rw [HN.out]; omega)
        have hcf : ¬ (c = x) := by omega
        have hsl : SlI wr (some ⟨ab, ao + x, none⟩) m (c - x) ((xs.drop x).take m) := ⟨(hsr.1.drop x).take m, by rw [List.length_take, List.length_drop, HN.out]; omega, by omega, by omega, by simp⟩
        have hMx := fun q => slicesMax_any _ _ _ _ (wr.drewN q) (hsl.quiet ⟨q, rfl⟩) (by omega)
        have hMn := fun q => slicesMin_any _ _ _ _ (wr.drewN q) (hsl.quiet ⟨q, rfl⟩) (by omega)
        rw [mxAt_cut (Nat.le_refl _) (by omega)] at hMx
        rw [mnAt_cut (Nat.le_refl _) (by omega)] at hMn
        obtain ⟨l, hl'⟩ : ∃ l, l = mnAt xs x m := ⟨_, rfl⟩
        obtain ⟨u, hu'⟩ : ∃ u, u = mxAt xs x m := ⟨_, rfl⟩
        rw [← hl'] at hMn
        rw [← hu'] at hMx
        have HS : Hid (stp xs (x, x + m) = wid xs l u (x, x + m) n) := by
          show _ = _; unfold stp; rw [HN.out, Nat.add_sub_cancel_left, ← hl', ← hu']
        have HMx := Lib.hid hMx
        have HMn := Lib.hid hMn
        have HGR := Lib.hid hgr
        clear hMx hMn hr hgr hl' hu' hsl
        go_wp2_with fail
        refine hI.mono ?_
        rintro e w2 ⟨rfl, hw2⟩
        obtain rfl : wr = w2 := hw2.symm
        clear hI
        go_wp2_with fail
        go_quiet ((first | (go_at_call 71; exact Calls.quiet_of_same (HMn.out _)) | (go_at_call 72; exact Calls.quiet_of_same (HMx.out _))))
        have hqn : Quiet w1 (wr.drewN nq) := hq.drewN nq
        generalize wr.drewN nq = wn at hqn ⊢
        have hsn := hs.below (hqn.below _)
        clear hsr hv0
        go_wp2
        go_loopw [8, 9, 55] (fun a b i wk => ∃ k p q : Nat, k ≤ n ∧ p ≤ n ∧ q ≤ n ∧ i = .int .i64 k ∧ a = .int .i64 p ∧ b = .int .i64 q ∧ Hid (wid xs l u (x, x + m) k = (p, q)) ∧ Quiet wn wk) (fun _ _ i _ => n - (intOf i).toNat)
        case atStart => exact ⟨0, x, x + m, Nat.zero_le _, by omega, hyn', rfl, rfl, by go_num, rfl, Quiet.refl _⟩
        case round =>
          obtain ⟨k, p, q, hk, hpn, hqn2, rfl, rfl, rfl, HW, hqk⟩ := hrel
          by_cases hlt : k < n
          · obtain ⟨v, hv, HV⟩ := (hsn.below (hqk.below _)).1.cell (i := k) (by rw [HN.out]; exact hlt)
            have e : wid xs l u (x, x + m) (k + 1) = if l ≤ v ∧ v ≤ u then (min p k, max q (k + 1)) else (p, q) := by
              simp only [wid, HW.out, getD_of HV.out]
            by_cases hl1 : l ≤ v
            · by_cases hu1 : v ≤ u
              · rw [if_pos ⟨hl1, hu1⟩] at e
                have HE := Lib.hid e; clear e
                go_wp2
                go_roundw
                case rel => exact ⟨k + 1, min p k, max q (k + 1), by omega, by omega, by omega, by go_num, congrArg _ (by split <;> omega), congrArg _ (by split <;> omega), HE, hqk⟩
                case measure => simp [intOf]; omega
              · rw [if_neg (fun hh => hu1 hh.2)] at e
                have HE := Lib.hid e; clear e
                go_wp2
                go_roundw
                case rel => exact ⟨k + 1, p, q, by omega, by omega, by omega, by go_num, rfl, rfl, HE, hqk⟩
                case measure => simp [intOf]; omega
            · rw [if_neg (fun hh => hl1 hh.1)] at e
              have HE := Lib.hid e; clear e
              go_wp2
              go_roundw
              case rel => exact ⟨k + 1, p, q, by omega, by omega, by omega, by go_num, rfl, rfl, HE, hqk⟩
              case measure => simp [intOf]; omega
          · obtain rfl : k = n := by omega
            have HST : Hid (stp xs (x, x + m) = (p, q)) := by show _ = _; rw [HS.out, HW.out]
            have hgr := HGR.out
            rw [HST.out, HN.out] at hgr
            rw [HST.out] at HC'
            simp only at hgr
            obtain ⟨r1, r2, r3, r4⟩ := hgr
            go_wp2
            go_roundw
            case rel => exact ⟨p, q, g', by omega, by omega, by omega, rfl, rfl, HC', hqn.trans hqk⟩
            case measure => simp [intOf]; omega
      · rw [hr] at hI
        have HE : Hid (clos xs n (x0, y0) = (x, x + m)) := by
          show _ = _; rw [HC.out, clos_run (by rw [Nat.add_sub_cancel_left]; exact hr)]
        clear hr
        go_wp2_with fail
        refine hI.mono ?_
        rintro e w2 ⟨rfl, hw2⟩
        obtain rfl : wr = w2 := hw2.symm
        clear hI
        have hrow := OwnI.lit2 wr ((x : Int) + 1) ((x : Int) + (m : Int))
        have hbw : Below w.heap.size w wr := hb1.trans (hq.below _)
        go_wp2
        go_ret2
        refine ⟨_, _, _, rfl, ?_, hbw.alloc hbw.size _⟩
        rw [HR.out x (x + m) HE.out]
        have := hrow.mono hbw.size
        simpa using this
end Go.Proofs.Ytmojniiimondfaa
