/- The walk of the law FnExactSplitPerm: it returns true, and writes to nothing that was there. -/
import Derived.Test.YtjhlianledgiiaaF59
import Derived.Test.YtjhlianledgiiaaFrame
namespace Go.Proofs.Ytjhlianledgiiaa
open Go.RowKit

theorem bnd_spl (xs : List Int) : (splRP xs).length ≤ 8 ∧ (splPP xs).length ≤ 8 ∧ (∀ q ∈ splPP xs, q.length ≤ 8) ∧ totL (splPP xs) ≤ 2097152 := by
  have h3 : (splPP xs).length ≤ 8 ∧ ∀ q ∈ splPP xs, q.length ≤ 8 := by
    unfold splPP
    split
    · rename_i h
      by_cases h2 : 2 ≤ xs.length
      · obtain ⟨h3, h4, h5⟩ := splP_spec h.1 h2
        exact ⟨h5, fun q hq => (h3 q hq).1.1⟩
      · have h1 : xs.length = 1 := by have := h.2; omega
        have e : splP xs = [[1]] := by unfold splP; rw [if_pos h1]
        rw [e]
        simp
    · simp
  refine ⟨?_, h3.1, h3.2, ?_⟩
  · unfold splRP
    split
    · rename_i h; exact splR_len h.1
    · simp
  · have h4 := totL_bound (m := 8) h3.2
    have h5 := h3.1
    omega
set_option maxHeartbeats 1600000 in
set_option maxRecDepth 100000 in
theorem FnExactSplitPerm_walk (aP : Option Addr) (nP cP : Nat) (xP : List Int) {w : World} (hinP : InInts w aP nP cP xP) :
    Calls Try.prog 3 #[.slice aP nP cP] w fun e w' => e = .returned (.bool true) ∧ Below w.heap.size w w' := by
  obtain ⟨hiP, hnP, hcP, hmP, hzP⟩ := hinP
  have HnP := Lib.hid hnP; clear hnP
  unfold maxLen at hmP
  by_cases hbigP : 1048576 < nP
  · go_enter Try.func3, Try.ntmps3
    go_wp2
    go_ret
    exact ⟨rfl, Below.refl _ _⟩
  have hlP : nP ≤ 1048576 := by omega
  clear hbigP hmP
  have hP : ArgI w w.heap.size aP nP cP xP := SlI.arg ⟨hiP, HnP.out, by omega, hcP, hzP⟩
  clear hiP
  have HT : Hid (totL (splPP xP) ≤ 2097152 ∧ (splPP xP).length ≤ 2097152) := ⟨(bnd_spl xP).2.2.2, by have h1 := bnd_spl xP; omega⟩
  go_enter Try.func3, Try.ntmps3
  go_wp2_with fail
  refine (toIntS_sl aP nP cP _ _ hP.1).mono ?_
  rintro e w1 ⟨ay, ny, cy, rfl, t, hb1⟩
  have hs1 := hb1.size; try simp only [World.size_alloc] at hs1
  have hB1 : Below w.heap.size w w1 := hb1
  have tP := hP.below hb1; clear hP; have hP := tP; clear tP
  have hy := t.ins; clear t
  have hly : ny ≤ 1048576 := by have h1 := hy.1.1; have h2 := HnP.out; omega
  go_wp2_with fail
  refine (spec_SplitPerm ay ny cy _ _ (hy.sl (by omega))).mono ?_
  rintro e w2 ⟨aw0, nw0, cw0, bw0, mw0, dw0, rfl, t, hb2⟩
  have hs2 := hb2.size; try simp only [World.size_alloc] at hs2
  have hB2 : Below w.heap.size w w2 := hB1.trans (hb2.mono hB1.size)
  have tP := hP.below hb2; clear hP; have hP := tP; clear tP
  have ty := hy.below hb2; clear hy; have hy := ty; clear ty
  have hw0 := t; clear t
  have hlw0 := hw0.root.1.1; have hmw0 := hw0.parts.len
  have hlw0 : nw0 ≤ 8 := by have h1 := bnd_spl xP; omega
  clear hmw0; have hmw0 : mw0 ≤ 8 := by have h1 := bnd_spl xP; have h2 := hw0.parts.len; omega
  have hA2 := below_alloc w2 (.cells #[.slice aw0 nw0 cw0, .slice bw0 mw0 dw0] 25)
  have hBA2 := hB2.trans (hA2.mono hB2.size)
  have tP := hP.below hA2; clear hP; have hP := tP; clear tP
  have ty := hy.below hA2; clear hy; have hy := ty; clear ty
  have tw0 := hw0.below hA2; clear hw0; have hw0 := tw0; clear tw0
  have hBw0 := Lib.hid (Bx.new w2 (.slice aw0 nw0 cw0) (.slice bw0 mw0 dw0) 25)
  clear hA2
  obtain ⟨pBw0, qBw0, _⟩ := hBw0.out
  go_wp2_with fail
  refine (toIntS_sl aP nP cP _ _ hP.1).mono ?_
  rintro e w3 ⟨ax, nx, cx, rfl, t, hb3⟩
  clear pBw0 qBw0
  have hs3 := hb3.size; try simp only [World.size_alloc] at hs3
  have hB3 : Below w.heap.size w w3 := hBA2.trans (hb3.mono hBA2.size)
  have tP := hP.below hb3; clear hP; have hP := tP; clear tP
  have ty := hy.below hb3; clear hy; have hy := ty; clear ty
  have tw0 := hw0.below hb3; clear hw0; have hw0 := tw0; clear tw0
  have tBw0 := Lib.hid (hBw0.out.below hb3); clear hBw0; have hBw0 := tBw0; clear tBw0
  have hx := t.ins; clear t
  have hlx : nx ≤ 1048576 := by have h1 := hx.1.1; have h2 := HnP.out; omega
  obtain ⟨pBw0, qBw0, _⟩ := hBw0.out
  go_wp2_with fail
  refine (impl_SplitPerm ax nx cx _ _ (hx.sl (by omega))).mono ?_
  rintro e w4 ⟨ag0, ng0, cg0, bg0, mg0, dg0, rfl, t, hb4⟩
  clear pBw0 qBw0
  have hs4 := hb4.size; try simp only [World.size_alloc] at hs4
  have hB4 : Below w.heap.size w w4 := hB3.trans (hb4.mono hB3.size)
  have tP := hP.below hb4; clear hP; have hP := tP; clear tP
  have ty := hy.below hb4; clear hy; have hy := ty; clear ty
  have tw0 := hw0.below hb4; clear hw0; have hw0 := tw0; clear tw0
  have tBw0 := Lib.hid (hBw0.out.below hb4); clear hBw0; have hBw0 := tBw0; clear tBw0
  have tx := hx.below hb4; clear hx; have hx := tx; clear tx
  have hg0 := t; clear t
  have hlg0 := hg0.root.1.1; have hmg0 := hg0.parts.len
  have hlg0 : ng0 ≤ 8 := by have h1 := bnd_spl xP; omega
  clear hmg0; have hmg0 : mg0 ≤ 8 := by have h1 := bnd_spl xP; have h2 := hg0.parts.len; omega
  have hA4 := below_alloc w4 (.cells #[.slice ag0 ng0 cg0, .slice bg0 mg0 dg0] 25)
  have hBA4 := hB4.trans (hA4.mono hB4.size)
  have tP := hP.below hA4; clear hP; have hP := tP; clear tP
  have ty := hy.below hA4; clear hy; have hy := ty; clear ty
  have tw0 := hw0.below hA4; clear hw0; have hw0 := tw0; clear tw0
  have tBw0 := Lib.hid (hBw0.out.below hA4); clear hBw0; have hBw0 := tBw0; clear tBw0
  have tx := hx.below hA4; clear hx; have hx := tx; clear tx
  have tg0 := hg0.below hA4; clear hg0; have hg0 := tg0; clear tg0
  have hBg0 := Lib.hid (Bx.new w4 (.slice ag0 ng0 cg0) (.slice bg0 mg0 dg0) 25)
  clear hA4
  obtain ⟨pBw0, qBw0, _⟩ := hBw0.out
  obtain ⟨pBg0, qBg0, _⟩ := hBg0.out
  go_wp2_with fail
  refine (eqInf_same ag0 ng0 cg0 _ bg0 mg0 dg0 _ aw0 nw0 cw0 bw0 mw0 dw0 _ (hg0.root.sl (by omega)) (hg0.parts.iisT HT.out) (hw0.root.sl (by omega)) (hw0.parts.iisT HT.out)).mono ?_
  rintro e w5 ⟨rfl, hb5⟩
  clear pBw0 qBw0
  clear pBg0 qBg0
  have hs5 := hb5.size; try simp only [World.size_alloc] at hs5
  have hB5 : Below w.heap.size w w5 := hBA4.trans (hb5.mono hBA4.size)
  have tP := hP.below hb5; clear hP; have hP := tP; clear tP
  have ty := hy.below hb5; clear hy; have hy := ty; clear ty
  have tw0 := hw0.below hb5; clear hw0; have hw0 := tw0; clear tw0
  have tBw0 := Lib.hid (hBw0.out.below hb5); clear hBw0; have hBw0 := tBw0; clear tBw0
  have tx := hx.below hb5; clear hx; have hx := tx; clear tx
  have tg0 := hg0.below hb5; clear hg0; have hg0 := tg0; clear tg0
  have tBg0 := Lib.hid (hBg0.out.below hb5); clear hBg0; have hBg0 := tBg0; clear tBg0
  obtain ⟨pBw0, qBw0, _⟩ := hBw0.out
  obtain ⟨pBg0, qBg0, _⟩ := hBg0.out
  go_wp2_with fail
  refine (toIntS_sl aP nP cP _ _ hP.1).mono ?_
  rintro e w6 ⟨az, nz, cz, rfl, t, hb6⟩
  clear pBw0 qBw0
  clear pBg0 qBg0
  have hs6 := hb6.size; try simp only [World.size_alloc] at hs6
  have hB6 : Below w.heap.size w w6 := hB5.trans (hb6.mono hB5.size)
  have tP := hP.below hb6; clear hP; have hP := tP; clear tP
  have ty := hy.below hb6; clear hy; have hy := ty; clear ty
  have tw0 := hw0.below hb6; clear hw0; have hw0 := tw0; clear tw0
  have tBw0 := Lib.hid (hBw0.out.below hb6); clear hBw0; have hBw0 := tBw0; clear tBw0
  have tx := hx.below hb6; clear hx; have hx := tx; clear tx
  have tg0 := hg0.below hb6; clear hg0; have hg0 := tg0; clear tg0
  have tBg0 := Lib.hid (hBg0.out.below hb6); clear hBg0; have hBg0 := tBg0; clear tBg0
  have hz := t.ins; clear t
  have hlz : nz ≤ 1048576 := by have h1 := hz.1.1; have h2 := HnP.out; omega
  obtain ⟨pBw0, qBw0, _⟩ := hBw0.out
  obtain ⟨pBg0, qBg0, _⟩ := hBg0.out
  go_wp2_with fail
  refine (eqIntS_same ax az nx nz cx cz _ _ (hx.sl (by omega)) (hz.sl (by omega))).mono ?_
  rintro e w7 ⟨rfl, hb7⟩
  clear pBw0 qBw0
  clear pBg0 qBg0
  have hs7 := hb7.size; try simp only [World.size_alloc] at hs7
  have hB7 : Below w.heap.size w w7 := hB6.trans (hb7.mono hB6.size)
  have tP := hP.below hb7; clear hP; have hP := tP; clear tP
  have ty := hy.below hb7; clear hy; have hy := ty; clear ty
  have tw0 := hw0.below hb7; clear hw0; have hw0 := tw0; clear tw0
  have tBw0 := Lib.hid (hBw0.out.below hb7); clear hBw0; have hBw0 := tBw0; clear tBw0
  have tx := hx.below hb7; clear hx; have hx := tx; clear tx
  have tg0 := hg0.below hb7; clear hg0; have hg0 := tg0; clear tg0
  have tBg0 := Lib.hid (hBg0.out.below hb7); clear hBg0; have hBg0 := tBg0; clear tBg0
  have tz := hz.below hb7; clear hz; have hz := tz; clear tz
  obtain ⟨pBw0, qBw0, _⟩ := hBw0.out
  obtain ⟨pBg0, qBg0, _⟩ := hBg0.out
  go_wp2_with fail
  refine (markIntS_own ax nx cx _ _ (1) _ _ hx (by omega) (by omega) (by omega)).mono ?_
  rintro e w8 ⟨rfl, om, hb8⟩
  clear pBw0 qBw0
  clear pBg0 qBg0
  have hs8 := hb8.size; try simp only [World.size_alloc] at hs8
  have tP := hP.out hb8 (by simp only [World.size_alloc] at *; omega); clear hP; have hP := tP; clear tP
  have ty := hy.out hb8 (by simp only [World.size_alloc] at *; omega); clear hy; have hy := ty; clear ty
  have tw0 := hw0.out hb8 (by simp only [World.size_alloc] at *; omega); clear hw0; have hw0 := tw0; clear tw0
  have tBw0 := Lib.hid (hBw0.out.out hb8 (by simp only [World.size_alloc] at *; omega)); clear hBw0; have hBw0 := tBw0; clear tBw0
  have tg0 := hg0.out hb8 (by simp only [World.size_alloc] at *; omega); clear hg0; have hg0 := tg0; clear tg0
  have tBg0 := Lib.hid (hBg0.out.out hb8 (by simp only [World.size_alloc] at *; omega)); clear hBg0; have hBg0 := tBg0; clear tBg0
  have tz := hz.out hb8 (by simp only [World.size_alloc] at *; omega); clear hz; have hz := tz; clear tz
  have hB8 : Below w.heap.size w w8 := hB7.trans (hb8.below (by simp only [World.size_alloc] at *; omega) hB7.size)
  clear hx; have hx := om; clear om
  obtain ⟨pBw0, qBw0, _⟩ := hBw0.out
  obtain ⟨pBg0, qBg0, _⟩ := hBg0.out
  go_wp2_with fail
  refine (eqInf_same ag0 ng0 cg0 _ bg0 mg0 dg0 _ aw0 nw0 cw0 bw0 mw0 dw0 _ (hg0.root.sl (by omega)) (hg0.parts.iisT HT.out) (hw0.root.sl (by omega)) (hw0.parts.iisT HT.out)).mono ?_
  rintro e w9 ⟨rfl, hb9⟩
  clear pBw0 qBw0
  clear pBg0 qBg0
  have hs9 := hb9.size; try simp only [World.size_alloc] at hs9
  have hB9 : Below w.heap.size w w9 := hB8.trans (hb9.mono hB8.size)
  have tP := hP.below hb9; clear hP; have hP := tP; clear tP
  have ty := hy.below hb9; clear hy; have hy := ty; clear ty
  have tw0 := hw0.below hb9; clear hw0; have hw0 := tw0; clear tw0
  have tBw0 := Lib.hid (hBw0.out.below hb9); clear hBw0; have hBw0 := tBw0; clear tBw0
  have tx := hx.below hb9; clear hx; have hx := tx; clear tx
  have tg0 := hg0.below hb9; clear hg0; have hg0 := tg0; clear tg0
  have tBg0 := Lib.hid (hBg0.out.below hb9); clear hBg0; have hBg0 := tBg0; clear tBg0
  have tz := hz.below hb9; clear hz; have hz := tz; clear tz
  obtain ⟨pBw0, qBw0, _⟩ := hBw0.out
  obtain ⟨pBg0, qBg0, _⟩ := hBg0.out
  go_wp2_with fail
  refine (markInf_own ag0 ng0 cg0 _ bg0 mg0 dg0 _ _ (1) _ _ hg0 (by omega) (by omega) HT.out.1 (by omega) (by omega) (by simp only [World.size_alloc] at *; omega)).mono ?_
  rintro e w10 ⟨rfl, om, hb10⟩
  clear pBw0 qBw0
  clear pBg0 qBg0
  have hs10 := hb10.size; try simp only [World.size_alloc] at hs10
  have tP := hP.out hb10 (by simp only [World.size_alloc] at *; omega); clear hP; have hP := tP; clear tP
  have ty := hy.out hb10 (by simp only [World.size_alloc] at *; omega); clear hy; have hy := ty; clear ty
  have tw0 := hw0.out hb10 (by simp only [World.size_alloc] at *; omega); clear hw0; have hw0 := tw0; clear tw0
  have tBw0 := Lib.hid (hBw0.out.out hb10 (by simp only [World.size_alloc] at *; omega)); clear hBw0; have hBw0 := tBw0; clear tBw0
  have tx := hx.out hb10 (by simp only [World.size_alloc] at *; omega); clear hx; have hx := tx; clear tx
  have tBg0 := Lib.hid (hBg0.out.out hb10 (by simp only [World.size_alloc] at *; omega)); clear hBg0; have hBg0 := tBg0; clear tBg0
  have tz := hz.out hb10 (by simp only [World.size_alloc] at *; omega); clear hz; have hz := tz; clear tz
  have hB10 : Below w.heap.size w w10 := hB9.trans (hb10.below (by simp only [World.size_alloc] at *; omega) hB9.size)
  clear hg0; have hg0 := om; clear om
  obtain ⟨pBw0, qBw0, _⟩ := hBw0.out
  obtain ⟨pBg0, qBg0, _⟩ := hBg0.out
  go_wp2_with fail
  refine (heldInf_own ag0 ng0 cg0 bg0 mg0 dg0 _ _ (1) _ _ hg0 (by omega) (by omega) HT.out.1 (by omega) (by omega)).mono ?_
  rintro e w11 ⟨rfl, hb11⟩
  clear pBw0 qBw0
  clear pBg0 qBg0
  have hs11 := hb11.size; try simp only [World.size_alloc] at hs11
  have hB11 : Below w.heap.size w w11 := hB10.trans (hb11.mono hB10.size)
  have tP := hP.below hb11; clear hP; have hP := tP; clear tP
  have ty := hy.below hb11; clear hy; have hy := ty; clear ty
  have tw0 := hw0.below hb11; clear hw0; have hw0 := tw0; clear tw0
  have tBw0 := Lib.hid (hBw0.out.below hb11); clear hBw0; have hBw0 := tBw0; clear tBw0
  have tx := hx.below hb11; clear hx; have hx := tx; clear tx
  have tg0 := hg0.below hb11; clear hg0; have hg0 := tg0; clear tg0
  have tBg0 := Lib.hid (hBg0.out.below hb11); clear hBg0; have hBg0 := tBg0; clear tBg0
  have tz := hz.below hb11; clear hz; have hz := tz; clear tz
  obtain ⟨pBw0, qBw0, _⟩ := hBw0.out
  obtain ⟨pBg0, qBg0, _⟩ := hBg0.out
  go_wp2_with fail
  refine (toIntS_sl aP nP cP _ _ hP.1).mono ?_
  rintro e w12 ⟨au, nu, cu, rfl, t, hb12⟩
  clear pBw0 qBw0
  clear pBg0 qBg0
  have hs12 := hb12.size; try simp only [World.size_alloc] at hs12
  have hB12 : Below w.heap.size w w12 := hB11.trans (hb12.mono hB11.size)
  have tP := hP.below hb12; clear hP; have hP := tP; clear tP
  have ty := hy.below hb12; clear hy; have hy := ty; clear ty
  have tw0 := hw0.below hb12; clear hw0; have hw0 := tw0; clear tw0
  have tBw0 := Lib.hid (hBw0.out.below hb12); clear hBw0; have hBw0 := tBw0; clear tBw0
  have tx := hx.below hb12; clear hx; have hx := tx; clear tx
  have tg0 := hg0.below hb12; clear hg0; have hg0 := tg0; clear tg0
  have tBg0 := Lib.hid (hBg0.out.below hb12); clear hBg0; have hBg0 := tBg0; clear tBg0
  have tz := hz.below hb12; clear hz; have hz := tz; clear tz
  have hu := t.ins; clear t
  have hlu : nu ≤ 1048576 := by have h1 := hu.1.1; have h2 := HnP.out; omega
  obtain ⟨pBw0, qBw0, _⟩ := hBw0.out
  obtain ⟨pBg0, qBg0, _⟩ := hBg0.out
  go_wp2_with fail
  refine (impl_SplitPerm au nu cu _ _ (hu.sl (by omega))).mono ?_
  rintro e w13 ⟨ah0, nh0, ch0, bh0, mh0, dh0, rfl, t, hb13⟩
  clear pBw0 qBw0
  clear pBg0 qBg0
  have hs13 := hb13.size; try simp only [World.size_alloc] at hs13
  have hB13 : Below w.heap.size w w13 := hB12.trans (hb13.mono hB12.size)
  have tP := hP.below hb13; clear hP; have hP := tP; clear tP
  have ty := hy.below hb13; clear hy; have hy := ty; clear ty
  have tw0 := hw0.below hb13; clear hw0; have hw0 := tw0; clear tw0
  have tBw0 := Lib.hid (hBw0.out.below hb13); clear hBw0; have hBw0 := tBw0; clear tBw0
  have tx := hx.below hb13; clear hx; have hx := tx; clear tx
  have tg0 := hg0.below hb13; clear hg0; have hg0 := tg0; clear tg0
  have tBg0 := Lib.hid (hBg0.out.below hb13); clear hBg0; have hBg0 := tBg0; clear tBg0
  have tz := hz.below hb13; clear hz; have hz := tz; clear tz
  have tu := hu.below hb13; clear hu; have hu := tu; clear tu
  have hh0 := t; clear t
  have hlh0 := hh0.root.1.1; have hmh0 := hh0.parts.len
  have hlh0 : nh0 ≤ 8 := by have h1 := bnd_spl xP; omega
  clear hmh0; have hmh0 : mh0 ≤ 8 := by have h1 := bnd_spl xP; have h2 := hh0.parts.len; omega
  have hA13 := below_alloc w13 (.cells #[.slice ah0 nh0 ch0, .slice bh0 mh0 dh0] 25)
  have hBA13 := hB13.trans (hA13.mono hB13.size)
  have tP := hP.below hA13; clear hP; have hP := tP; clear tP
  have ty := hy.below hA13; clear hy; have hy := ty; clear ty
  have tw0 := hw0.below hA13; clear hw0; have hw0 := tw0; clear tw0
  have tBw0 := Lib.hid (hBw0.out.below hA13); clear hBw0; have hBw0 := tBw0; clear tBw0
  have tx := hx.below hA13; clear hx; have hx := tx; clear tx
  have tg0 := hg0.below hA13; clear hg0; have hg0 := tg0; clear tg0
  have tBg0 := Lib.hid (hBg0.out.below hA13); clear hBg0; have hBg0 := tBg0; clear tBg0
  have tz := hz.below hA13; clear hz; have hz := tz; clear tz
  have tu := hu.below hA13; clear hu; have hu := tu; clear tu
  have th0 := hh0.below hA13; clear hh0; have hh0 := th0; clear th0
  have hBh0 := Lib.hid (Bx.new w13 (.slice ah0 nh0 ch0) (.slice bh0 mh0 dh0) 25)
  clear hA13
  obtain ⟨pBw0, qBw0, _⟩ := hBw0.out
  obtain ⟨pBg0, qBg0, _⟩ := hBg0.out
  obtain ⟨pBh0, qBh0, _⟩ := hBh0.out
  go_wp2_with fail
  refine (eqInf_same ah0 nh0 ch0 _ bh0 mh0 dh0 _ aw0 nw0 cw0 bw0 mw0 dw0 _ (hh0.root.sl (by omega)) (hh0.parts.iisT HT.out) (hw0.root.sl (by omega)) (hw0.parts.iisT HT.out)).mono ?_
  rintro e w14 ⟨rfl, hb14⟩
  clear pBw0 qBw0
  clear pBg0 qBg0
  clear pBh0 qBh0
  have hs14 := hb14.size; try simp only [World.size_alloc] at hs14
  have hB14 : Below w.heap.size w w14 := hBA13.trans (hb14.mono hBA13.size)
  have tP := hP.below hb14; clear hP; have hP := tP; clear tP
  have ty := hy.below hb14; clear hy; have hy := ty; clear ty
  have tw0 := hw0.below hb14; clear hw0; have hw0 := tw0; clear tw0
  have tBw0 := Lib.hid (hBw0.out.below hb14); clear hBw0; have hBw0 := tBw0; clear tBw0
  have tx := hx.below hb14; clear hx; have hx := tx; clear tx
  have tg0 := hg0.below hb14; clear hg0; have hg0 := tg0; clear tg0
  have tBg0 := Lib.hid (hBg0.out.below hb14); clear hBg0; have hBg0 := tBg0; clear tBg0
  have tz := hz.below hb14; clear hz; have hz := tz; clear tz
  have tu := hu.below hb14; clear hu; have hu := tu; clear tu
  have th0 := hh0.below hb14; clear hh0; have hh0 := th0; clear th0
  have tBh0 := Lib.hid (hBh0.out.below hb14); clear hBh0; have hBh0 := tBh0; clear tBh0
  obtain ⟨pBw0, qBw0, _⟩ := hBw0.out
  obtain ⟨pBg0, qBg0, _⟩ := hBg0.out
  obtain ⟨pBh0, qBh0, _⟩ := hBh0.out
  go_wp2_with fail
  refine (heldInf_own ag0 ng0 cg0 bg0 mg0 dg0 _ _ (1) _ _ hg0 (by omega) (by omega) HT.out.1 (by omega) (by omega)).mono ?_
  rintro e w15 ⟨rfl, hb15⟩
  clear pBw0 qBw0
  clear pBg0 qBg0
  clear pBh0 qBh0
  have hs15 := hb15.size; try simp only [World.size_alloc] at hs15
  have hB15 : Below w.heap.size w w15 := hB14.trans (hb15.mono hB14.size)
  have tP := hP.below hb15; clear hP; have hP := tP; clear tP
  have ty := hy.below hb15; clear hy; have hy := ty; clear ty
  have tw0 := hw0.below hb15; clear hw0; have hw0 := tw0; clear tw0
  have tBw0 := Lib.hid (hBw0.out.below hb15); clear hBw0; have hBw0 := tBw0; clear tBw0
  have tx := hx.below hb15; clear hx; have hx := tx; clear tx
  have tg0 := hg0.below hb15; clear hg0; have hg0 := tg0; clear tg0
  have tBg0 := Lib.hid (hBg0.out.below hb15); clear hBg0; have hBg0 := tBg0; clear tBg0
  have tz := hz.below hb15; clear hz; have hz := tz; clear tz
  have tu := hu.below hb15; clear hu; have hu := tu; clear tu
  have th0 := hh0.below hb15; clear hh0; have hh0 := th0; clear th0
  have tBh0 := Lib.hid (hBh0.out.below hb15); clear hBh0; have hBh0 := tBh0; clear tBh0
  go_wp2
  go_ret
  exact ⟨rfl, hB15⟩
end Go.Proofs.Ytjhlianledgiiaa
