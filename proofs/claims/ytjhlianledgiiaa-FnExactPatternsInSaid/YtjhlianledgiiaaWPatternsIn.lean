/- The walk of the law FnExactPatternsIn: it returns true, and writes to nothing that was there. -/
import Derived.Test.YtjhlianledgiiaaF73
import Derived.Test.YtjhlianledgiiaaFrame
namespace Go.Proofs.Ytjhlianledgiiaa
open Go.RowKit

set_option maxHeartbeats 1600000 in
set_option maxRecDepth 100000 in
theorem FnExactPatternsIn_walk (aP : Option Addr) (nP cP : Nat) (xP : List Int) (xK : Int) {w : World} (hinP : InInts w aP nP cP xP) (hwK : (Lit.int .i64 xK).wf = true) :
    Calls Try.prog 5 #[.slice aP nP cP, .int .i64 xK] w fun e w' => e = .returned (.bool true) ∧ Below w.heap.size w w' := by

  obtain ⟨hiP, hnP, hcP, hmP, hzP⟩ := hinP
  have HnP := Lib.hid hnP; clear hnP
  unfold maxLen at hmP
  by_cases hbigP : 1048576 < nP
  · go_enter Try.func5, Try.ntmps5
    go_wp2
    go_ret
    exact ⟨rfl, Below.refl _ _⟩
  have hlP : nP ≤ 1048576 := by omega
  clear hbigP hmP
  have hP : ArgI w w.heap.size aP nP cP xP := SlI.arg ⟨hiP, HnP.out, by omega, hcP, hzP⟩
  clear hiP
  go_enter Try.func5, Try.ntmps5
  go_wp2_with fail
  refine (toIntS_sl aP nP cP _ _ hP.1).mono ?_
  rintro e w1 ⟨ay1, ny1, cy1, rfl, t, hb1⟩
  have hs1 := hb1.size
  have hB1 : Below w.heap.size w w1 := hb1
  have tP := hP.below hb1; clear hP; have hP := tP; clear tP
  have hy1 := t.ins; clear t
  have hly1 : ny1 ≤ 1048576 := by have h1 := hy1.1.1; have h2 := HnP.out; omega
  go_wp2_with fail
  refine (spec_PatternsIn ay1 ny1 cy1 _  xK _ (hy1.sl (by omega)) hwK).mono ?_
  rintro e w2 ⟨aw0, nw0, cw0, rfl, t, hb2⟩
  have hs2 := hb2.size
  have hB2 : Below w.heap.size w w2 := hB1.trans (hb2.mono hB1.size)
  have tP := hP.below hb2; clear hP; have hP := tP; clear tP
  have ty1 := hy1.below hb2; clear hy1; have hy1 := ty1; clear ty1
  have hw0 := t; clear t
  have hlw0 : nw0 ≤ 2097152 := by have h1 := hw0.len; have h2 := (bound_ptsP xP xK).2; omega
  go_wp2_with fail
  refine (toIntS_sl aP nP cP _ _ hP.1).mono ?_
  rintro e w3 ⟨ax_0, nx_0, cx_0, rfl, t, hb3⟩
  have hs3 := hb3.size
  have hB3 : Below w.heap.size w w3 := hB2.trans (hb3.mono hB2.size)
  have tP := hP.below hb3; clear hP; have hP := tP; clear tP
  have ty1 := hy1.below hb3; clear hy1; have hy1 := ty1; clear ty1
  have tw0 := hw0.below hb3; clear hw0; have hw0 := tw0; clear tw0
  have hx_0 := t.ins; clear t
  have hlx_0 : nx_0 ≤ 1048576 := by have h1 := hx_0.1.1; have h2 := HnP.out; omega
  go_wp2_with fail
  refine (impl_PatternsIn ax_0 nx_0 cx_0 _  xK _ (hx_0.sl (by omega)) hwK).mono ?_
  rintro e w4 ⟨ag0, ng0, cg0, rfl, t, hb4⟩
  have hs4 := hb4.size
  have hB4 : Below w.heap.size w w4 := hB3.trans (hb4.mono hB3.size)
  have tP := hP.below hb4; clear hP; have hP := tP; clear tP
  have ty1 := hy1.below hb4; clear hy1; have hy1 := ty1; clear ty1
  have tw0 := hw0.below hb4; clear hw0; have hw0 := tw0; clear tw0
  have tx_0 := hx_0.below hb4; clear hx_0; have hx_0 := tx_0; clear tx_0
  have hg0 := t; clear t
  have hlg0 : ng0 ≤ 2097152 := by have h1 := hg0.len; have h2 := (bound_ptsP xP xK).2; omega
  go_wp2_with fail
  refine (eqIntSS_same ag0 aw0 ng0 nw0 cg0 cw0 _ _ (hg0.iisT (bound_ptsP xP xK)) (hw0.iisT (bound_ptsP xP xK))).mono ?_
  rintro e w5 ⟨rfl, hb5⟩
  have hs5 := hb5.size
  have hB5 : Below w.heap.size w w5 := hB4.trans (hb5.mono hB4.size)
  have tP := hP.below hb5; clear hP; have hP := tP; clear tP
  have ty1 := hy1.below hb5; clear hy1; have hy1 := ty1; clear ty1
  have tw0 := hw0.below hb5; clear hw0; have hw0 := tw0; clear tw0
  have tx_0 := hx_0.below hb5; clear hx_0; have hx_0 := tx_0; clear tx_0
  have tg0 := hg0.below hb5; clear hg0; have hg0 := tg0; clear tg0
  go_wp2_with fail
  refine (toIntS_sl aP nP cP _ _ hP.1).mono ?_
  rintro e w6 ⟨ay6, ny6, cy6, rfl, t, hb6⟩
  have hs6 := hb6.size
  have hB6 : Below w.heap.size w w6 := hB5.trans (hb6.mono hB5.size)
  have tP := hP.below hb6; clear hP; have hP := tP; clear tP
  have ty1 := hy1.below hb6; clear hy1; have hy1 := ty1; clear ty1
  have tw0 := hw0.below hb6; clear hw0; have hw0 := tw0; clear tw0
  have tx_0 := hx_0.below hb6; clear hx_0; have hx_0 := tx_0; clear tx_0
  have tg0 := hg0.below hb6; clear hg0; have hg0 := tg0; clear tg0
  have hy6 := t.ins; clear t
  have hly6 : ny6 ≤ 1048576 := by have h1 := hy6.1.1; have h2 := HnP.out; omega
  go_wp2_with fail
  refine (eqIntS_same ax_0 ay6 nx_0 ny6 cx_0 cy6  _ _ (hx_0.sl (by omega)) (hy6.sl (by omega))).mono ?_
  rintro e w7 ⟨rfl, hb7⟩
  have hs7 := hb7.size
  have hB7 : Below w.heap.size w w7 := hB6.trans (hb7.mono hB6.size)
  have tP := hP.below hb7; clear hP; have hP := tP; clear tP
  have ty1 := hy1.below hb7; clear hy1; have hy1 := ty1; clear ty1
  have tw0 := hw0.below hb7; clear hw0; have hw0 := tw0; clear tw0
  have tx_0 := hx_0.below hb7; clear hx_0; have hx_0 := tx_0; clear tx_0
  have tg0 := hg0.below hb7; clear hg0; have hg0 := tg0; clear tg0
  have ty6 := hy6.below hb7; clear hy6; have hy6 := ty6; clear ty6
  go_wp2_with fail
  refine (markIntS_own ax_0 nx_0 cx_0 _ _ (1) _ _ hx_0 (by omega) (by omega) (by omega)).mono ?_
  rintro e w8 ⟨rfl, om, hb8⟩
  have hs8 := hb8.size
  have tP := hP.out hb8 (by omega)
  clear hP; have hP := tP; clear tP
  have ty1 := hy1.out hb8 (by omega)
  clear hy1; have hy1 := ty1; clear ty1
  have tw0 := hw0.out hb8 (by omega)
  clear hw0; have hw0 := tw0; clear tw0
  have tg0 := hg0.out hb8 (by omega)
  clear hg0; have hg0 := tg0; clear tg0
  have ty6 := hy6.out hb8 (by omega)
  clear hy6; have hy6 := ty6; clear ty6
  have hB8 : Below w.heap.size w w8 := hB7.trans (hb8.below (by omega) hB7.size)
  clear hx_0; have hx_0 := om; clear om
  go_wp2_with fail
  refine (eqIntSS_same ag0 aw0 ng0 nw0 cg0 cw0 _ _ (hg0.iisT (bound_ptsP xP xK)) (hw0.iisT (bound_ptsP xP xK))).mono ?_
  rintro e w9 ⟨rfl, hb9⟩
  have hs9 := hb9.size
  have hB9 : Below w.heap.size w w9 := hB8.trans (hb9.mono hB8.size)
  have tP := hP.below hb9; clear hP; have hP := tP; clear tP
  have ty1 := hy1.below hb9; clear hy1; have hy1 := ty1; clear ty1
  have tw0 := hw0.below hb9; clear hw0; have hw0 := tw0; clear tw0
  have tx_0 := hx_0.below hb9; clear hx_0; have hx_0 := tx_0; clear tx_0
  have tg0 := hg0.below hb9; clear hg0; have hg0 := tg0; clear tg0
  have ty6 := hy6.below hb9; clear hy6; have hy6 := ty6; clear ty6
  have Tg0 := (bound_ptsP xP xK).1
  go_wp2_with fail
  refine (markIntSS_own ag0 ng0 cg0 _ _ (1) _ _ hg0 (by omega) Tg0 (by omega) (by omega)).mono ?_
  rintro e w10 ⟨rfl, om, hb10⟩
  have hs10 := hb10.size
  clear Tg0
  have tP := hP.out hb10 (by omega)
  clear hP; have hP := tP; clear tP
  have ty1 := hy1.out hb10 (by omega)
  clear hy1; have hy1 := ty1; clear ty1
  have tw0 := hw0.out hb10 (by omega)
  clear hw0; have hw0 := tw0; clear tw0
  have tx_0 := hx_0.out hb10 (by omega)
  clear hx_0; have hx_0 := tx_0; clear tx_0
  have ty6 := hy6.out hb10 (by omega)
  clear hy6; have hy6 := ty6; clear ty6
  have hB10 : Below w.heap.size w w10 := hB9.trans (hb10.below (by omega) hB9.size)
  clear hg0; have hg0 := om; clear om
  go_wp2_with fail
  refine (heldIntSS_own ag0 ng0 cg0 _ _ (1) _ _ hg0 (by omega) (bound_ptsP xP xK).1 (by omega) (by omega)).mono ?_
  rintro e w11 ⟨rfl, hb11⟩
  have hs11 := hb11.size
  have hB11 : Below w.heap.size w w11 := hB10.trans (hb11.mono hB10.size)
  have tP := hP.below hb11; clear hP; have hP := tP; clear tP
  have ty1 := hy1.below hb11; clear hy1; have hy1 := ty1; clear ty1
  have tw0 := hw0.below hb11; clear hw0; have hw0 := tw0; clear tw0
  have tx_0 := hx_0.below hb11; clear hx_0; have hx_0 := tx_0; clear tx_0
  have tg0 := hg0.below hb11; clear hg0; have hg0 := tg0; clear tg0
  have ty6 := hy6.below hb11; clear hy6; have hy6 := ty6; clear ty6
  go_wp2_with fail
  refine (toIntS_sl aP nP cP _ _ hP.1).mono ?_
  rintro e w12 ⟨ay12, ny12, cy12, rfl, t, hb12⟩
  have hs12 := hb12.size
  have hB12 : Below w.heap.size w w12 := hB11.trans (hb12.mono hB11.size)
  have tP := hP.below hb12; clear hP; have hP := tP; clear tP
  have ty1 := hy1.below hb12; clear hy1; have hy1 := ty1; clear ty1
  have tw0 := hw0.below hb12; clear hw0; have hw0 := tw0; clear tw0
  have tx_0 := hx_0.below hb12; clear hx_0; have hx_0 := tx_0; clear tx_0
  have tg0 := hg0.below hb12; clear hg0; have hg0 := tg0; clear tg0
  have ty6 := hy6.below hb12; clear hy6; have hy6 := ty6; clear ty6
  have hy12 := t.ins; clear t
  have hly12 : ny12 ≤ 1048576 := by have h1 := hy12.1.1; have h2 := HnP.out; omega
  go_wp2_with fail
  refine (impl_PatternsIn ay12 ny12 cy12 _  xK _ (hy12.sl (by omega)) hwK).mono ?_
  rintro e w13 ⟨ah0, nh0, ch0, rfl, t, hb13⟩
  have hs13 := hb13.size
  have hB13 : Below w.heap.size w w13 := hB12.trans (hb13.mono hB12.size)
  have tP := hP.below hb13; clear hP; have hP := tP; clear tP
  have ty1 := hy1.below hb13; clear hy1; have hy1 := ty1; clear ty1
  have tw0 := hw0.below hb13; clear hw0; have hw0 := tw0; clear tw0
  have tx_0 := hx_0.below hb13; clear hx_0; have hx_0 := tx_0; clear tx_0
  have tg0 := hg0.below hb13; clear hg0; have hg0 := tg0; clear tg0
  have ty6 := hy6.below hb13; clear hy6; have hy6 := ty6; clear ty6
  have ty12 := hy12.below hb13; clear hy12; have hy12 := ty12; clear ty12
  have hh0 := t; clear t
  have hlh0 : nh0 ≤ 2097152 := by have h1 := hh0.len; have h2 := (bound_ptsP xP xK).2; omega
  go_wp2_with fail
  refine (eqIntSS_same ah0 aw0 nh0 nw0 ch0 cw0 _ _ (hh0.iisT (bound_ptsP xP xK)) (hw0.iisT (bound_ptsP xP xK))).mono ?_
  rintro e w14 ⟨rfl, hb14⟩
  have hs14 := hb14.size
  have hB14 : Below w.heap.size w w14 := hB13.trans (hb14.mono hB13.size)
  have tP := hP.below hb14; clear hP; have hP := tP; clear tP
  have ty1 := hy1.below hb14; clear hy1; have hy1 := ty1; clear ty1
  have tw0 := hw0.below hb14; clear hw0; have hw0 := tw0; clear tw0
  have tx_0 := hx_0.below hb14; clear hx_0; have hx_0 := tx_0; clear tx_0
  have tg0 := hg0.below hb14; clear hg0; have hg0 := tg0; clear tg0
  have ty6 := hy6.below hb14; clear hy6; have hy6 := ty6; clear ty6
  have ty12 := hy12.below hb14; clear hy12; have hy12 := ty12; clear ty12
  have th0 := hh0.below hb14; clear hh0; have hh0 := th0; clear th0
  go_wp2_with fail
  refine (heldIntSS_own ag0 ng0 cg0 _ _ (1) _ _ hg0 (by omega) (bound_ptsP xP xK).1 (by omega) (by omega)).mono ?_
  rintro e w15 ⟨rfl, hb15⟩
  have hs15 := hb15.size
  have hB15 : Below w.heap.size w w15 := hB14.trans (hb15.mono hB14.size)
  have tP := hP.below hb15; clear hP; have hP := tP; clear tP
  have ty1 := hy1.below hb15; clear hy1; have hy1 := ty1; clear ty1
  have tw0 := hw0.below hb15; clear hw0; have hw0 := tw0; clear tw0
  have tx_0 := hx_0.below hb15; clear hx_0; have hx_0 := tx_0; clear tx_0
  have tg0 := hg0.below hb15; clear hg0; have hg0 := tg0; clear tg0
  have ty6 := hy6.below hb15; clear hy6; have hy6 := ty6; clear ty6
  have ty12 := hy12.below hb15; clear hy12; have hy12 := ty12; clear ty12
  have th0 := hh0.below hb15; clear hh0; have hh0 := th0; clear th0
  go_wp2
  go_ret
  exact ⟨rfl, hB15⟩
end Go.Proofs.Ytjhlianledgiiaa
