/- The walk of the law FnExactIsSeparable: it returns true, and writes to nothing that was there. -/
import Derived.Test.YtjhlianledgiiaaF57
import Derived.Test.YtjhlianledgiiaaFrame
namespace Go.Proofs.Ytjhlianledgiiaa
open Go.RowKit

set_option maxHeartbeats 1600000 in
set_option maxRecDepth 100000 in
theorem FnExactIsSeparable_walk (aP : Option Addr) (nP cP : Nat) (xP : List Int) {w : World} (hinP : InInts w aP nP cP xP) :
    Calls Try.prog 4 #[.slice aP nP cP] w fun e w' => e = .returned (.bool true) ∧ Below w.heap.size w w' := by

  obtain ⟨hiP, hnP, hcP, hmP, hzP⟩ := hinP
  have HnP := Lib.hid hnP; clear hnP
  unfold maxLen at hmP
  by_cases hbigP : 1048576 < nP
  · go_enter Try.func4, Try.ntmps4
    go_wp2
    go_ret
    exact ⟨rfl, Below.refl _ _⟩
  have hlP : nP ≤ 1048576 := by omega
  clear hbigP hmP
  have hP : ArgI w w.heap.size aP nP cP xP := SlI.arg ⟨hiP, HnP.out, by omega, hcP, hzP⟩
  clear hiP
  go_enter Try.func4, Try.ntmps4
  go_wp2_with fail
  refine (toIntS_sl aP nP cP _ _ hP.1).mono ?_
  rintro e w1 ⟨ay1, ny1, cy1, rfl, t, hb1⟩
  have hs1 := hb1.size
  have hB1 : Below w.heap.size w w1 := hb1
  have tP := hP.below hb1; clear hP; have hP := tP; clear tP
  have hy1 := t.ins; clear t
  have hly1 : ny1 ≤ 1048576 := by have h1 := hy1.1.1; have h2 := HnP.out; omega
  go_wp2_with fail
  refine (spec_IsSeparable ay1 ny1 cy1 _  _ (hy1.sl (by omega))).mono ?_
  rintro e w2 ⟨rfl, hb2⟩
  have hs2 := hb2.size
  have hB2 : Below w.heap.size w w2 := hB1.trans (hb2.mono hB1.size)
  have tP := hP.below hb2; clear hP; have hP := tP; clear tP
  have ty1 := hy1.below hb2; clear hy1; have hy1 := ty1; clear ty1
  go_wp2_with fail
  refine (toIntS_sl aP nP cP _ _ hP.1).mono ?_
  rintro e w3 ⟨ax_0, nx_0, cx_0, rfl, t, hb3⟩
  have hs3 := hb3.size
  have hB3 : Below w.heap.size w w3 := hB2.trans (hb3.mono hB2.size)
  have tP := hP.below hb3; clear hP; have hP := tP; clear tP
  have ty1 := hy1.below hb3; clear hy1; have hy1 := ty1; clear ty1
  have hx_0 := t.ins; clear t
  have hlx_0 : nx_0 ≤ 1048576 := by have h1 := hx_0.1.1; have h2 := HnP.out; omega
  go_wp2_with fail
  refine (impl_IsSeparable ax_0 nx_0 cx_0 _  _ (hx_0.sl (by omega))).mono ?_
  rintro e w4 ⟨rfl, hb4⟩
  have hs4 := hb4.size
  have hB4 : Below w.heap.size w w4 := hB3.trans (hb4.mono hB3.size)
  have tP := hP.below hb4; clear hP; have hP := tP; clear tP
  have ty1 := hy1.below hb4; clear hy1; have hy1 := ty1; clear ty1
  have tx_0 := hx_0.below hb4; clear hx_0; have hx_0 := tx_0; clear tx_0
  go_wp2_with fail
  refine (toIntS_sl aP nP cP _ _ hP.1).mono ?_
  rintro e w5 ⟨ay5, ny5, cy5, rfl, t, hb5⟩
  have hs5 := hb5.size
  have hB5 : Below w.heap.size w w5 := hB4.trans (hb5.mono hB4.size)
  have tP := hP.below hb5; clear hP; have hP := tP; clear tP
  have ty1 := hy1.below hb5; clear hy1; have hy1 := ty1; clear ty1
  have tx_0 := hx_0.below hb5; clear hx_0; have hx_0 := tx_0; clear tx_0
  have hy5 := t.ins; clear t
  have hly5 : ny5 ≤ 1048576 := by have h1 := hy5.1.1; have h2 := HnP.out; omega
  go_wp2_with fail
  refine (eqIntS_same ax_0 ay5 nx_0 ny5 cx_0 cy5  _ _ (hx_0.sl (by omega)) (hy5.sl (by omega))).mono ?_
  rintro e w6 ⟨rfl, hb6⟩
  have hs6 := hb6.size
  have hB6 : Below w.heap.size w w6 := hB5.trans (hb6.mono hB5.size)
  have tP := hP.below hb6; clear hP; have hP := tP; clear tP
  have ty1 := hy1.below hb6; clear hy1; have hy1 := ty1; clear ty1
  have tx_0 := hx_0.below hb6; clear hx_0; have hx_0 := tx_0; clear tx_0
  have ty5 := hy5.below hb6; clear hy5; have hy5 := ty5; clear ty5
  go_wp2
  go_ret
  exact ⟨rfl, hB6⟩
end Go.Proofs.Ytjhlianledgiiaa
