/- The walk of the law FnExactIsOccurrence: it returns true, and writes to nothing that was there. -/
import Derived.Test.YtjndgppekckhbaaF26
import Derived.Test.YtjndgppekckhbaaFrame
namespace Go.Proofs.Ytjndgppekckhbaa
open Go.RowKit

set_option maxHeartbeats 1600000 in
set_option maxRecDepth 100000 in
theorem FnExactIsOccurrence_walk (aP : Option Addr) (nP cP : Nat) (xP : List Int) (aQ : Option Addr) (nQ cQ : Nat) (xQ : List Int) (aL : Option Addr) (nL cL : Nat) (xL : List Int) {w : World} (hinP : InInts w aP nP cP xP) (hinQ : InInts w aQ nQ cQ xQ) (hinL : InInts w aL nL cL xL) :
    Calls Try.prog 9 #[.slice aP nP cP, .slice aQ nQ cQ, .slice aL nL cL] w fun e w' => e = .returned (.bool true) ∧ Below w.heap.size w w' := by

  obtain ⟨hiP, hnP, hcP, hmP, hzP⟩ := hinP
  have HnP := Lib.hid hnP; clear hnP
  unfold maxLen at hmP
  obtain ⟨hiQ, hnQ, hcQ, hmQ, hzQ⟩ := hinQ
  have HnQ := Lib.hid hnQ; clear hnQ
  unfold maxLen at hmQ
  obtain ⟨hiL, hnL, hcL, hmL, hzL⟩ := hinL
  have HnL := Lib.hid hnL; clear hnL
  unfold maxLen at hmL
  by_cases hbigP : 1048576 < nP
  · go_enter Try.func9, Try.ntmps9
    go_wp2
    go_ret
    exact ⟨rfl, Below.refl _ _⟩
  have hlP : nP ≤ 1048576 := by omega
  clear hbigP hmP
  by_cases hbigQ : 1048576 < nQ
  · go_enter Try.func9, Try.ntmps9
    go_wp2
    go_ret
    exact ⟨rfl, Below.refl _ _⟩
  have hlQ : nQ ≤ 1048576 := by omega
  clear hbigQ hmQ
  by_cases hbigL : 1048576 < nL
  · go_enter Try.func9, Try.ntmps9
    go_wp2
    go_ret
    exact ⟨rfl, Below.refl _ _⟩
  have hlL : nL ≤ 1048576 := by omega
  clear hbigL hmL
  have hP : ArgI w w.heap.size aP nP cP xP := SlI.arg ⟨hiP, HnP.out, by omega, hcP, hzP⟩
  clear hiP
  have hQ : ArgI w w.heap.size aQ nQ cQ xQ := SlI.arg ⟨hiQ, HnQ.out, by omega, hcQ, hzQ⟩
  clear hiQ
  have hL : ArgI w w.heap.size aL nL cL xL := SlI.arg ⟨hiL, HnL.out, by omega, hcL, hzL⟩
  clear hiL
  go_enter Try.func9, Try.ntmps9
  go_wp2_with fail
  refine (toIntS_sl aP nP cP _ _ hP.1).mono ?_
  rintro e w1 ⟨ay1, ny1, cy1, rfl, t, hb1⟩
  have hs1 := hb1.size
  have hB1 : Below w.heap.size w w1 := hb1
  have tP := hP.below hb1; clear hP; have hP := tP; clear tP
  have tQ := hQ.below hb1; clear hQ; have hQ := tQ; clear tQ
  have tL := hL.below hb1; clear hL; have hL := tL; clear tL
  have hy1 := t.ins; clear t
  have hly1 : ny1 ≤ 1048576 := by have h1 := hy1.1.1; have h2 := HnP.out; omega
  go_wp2_with fail
  refine (toIntS_sl aQ nQ cQ _ _ hQ.1).mono ?_
  rintro e w2 ⟨ay2, ny2, cy2, rfl, t, hb2⟩
  have hs2 := hb2.size
  have hB2 : Below w.heap.size w w2 := hB1.trans (hb2.mono hB1.size)
  have tP := hP.below hb2; clear hP; have hP := tP; clear tP
  have tQ := hQ.below hb2; clear hQ; have hQ := tQ; clear tQ
  have tL := hL.below hb2; clear hL; have hL := tL; clear tL
  have ty1 := hy1.below hb2; clear hy1; have hy1 := ty1; clear ty1
  have hy2 := t.ins; clear t
  have hly2 : ny2 ≤ 1048576 := by have h1 := hy2.1.1; have h2 := HnQ.out; omega
  go_wp2_with fail
  refine (toIntS_sl aL nL cL _ _ hL.1).mono ?_
  rintro e w3 ⟨ay3, ny3, cy3, rfl, t, hb3⟩
  have hs3 := hb3.size
  have hB3 : Below w.heap.size w w3 := hB2.trans (hb3.mono hB2.size)
  have tP := hP.below hb3; clear hP; have hP := tP; clear tP
  have tQ := hQ.below hb3; clear hQ; have hQ := tQ; clear tQ
  have tL := hL.below hb3; clear hL; have hL := tL; clear tL
  have ty1 := hy1.below hb3; clear hy1; have hy1 := ty1; clear ty1
  have ty2 := hy2.below hb3; clear hy2; have hy2 := ty2; clear ty2
  have hy3 := t.ins; clear t
  have hly3 : ny3 ≤ 1048576 := by have h1 := hy3.1.1; have h2 := HnL.out; omega
  go_wp2_with fail
  refine (spec_IsOccurrence ay1 ny1 cy1 _  ay2 ny2 cy2 _  ay3 ny3 cy3 _  _ (hy1.sl (by omega)) (hy2.sl (by omega)) (hy3.sl (by omega))).mono ?_
  rintro e w4 ⟨rfl, hb4⟩
  have hs4 := hb4.size
  have hB4 : Below w.heap.size w w4 := hB3.trans (hb4.mono hB3.size)
  have tP := hP.below hb4; clear hP; have hP := tP; clear tP
  have tQ := hQ.below hb4; clear hQ; have hQ := tQ; clear tQ
  have tL := hL.below hb4; clear hL; have hL := tL; clear tL
  have ty1 := hy1.below hb4; clear hy1; have hy1 := ty1; clear ty1
  have ty2 := hy2.below hb4; clear hy2; have hy2 := ty2; clear ty2
  have ty3 := hy3.below hb4; clear hy3; have hy3 := ty3; clear ty3
  go_wp2_with fail
  refine (toIntS_sl aP nP cP _ _ hP.1).mono ?_
  rintro e w5 ⟨ax_0, nx_0, cx_0, rfl, t, hb5⟩
  have hs5 := hb5.size
  have hB5 : Below w.heap.size w w5 := hB4.trans (hb5.mono hB4.size)
  have tP := hP.below hb5; clear hP; have hP := tP; clear tP
  have tQ := hQ.below hb5; clear hQ; have hQ := tQ; clear tQ
  have tL := hL.below hb5; clear hL; have hL := tL; clear tL
  have ty1 := hy1.below hb5; clear hy1; have hy1 := ty1; clear ty1
  have ty2 := hy2.below hb5; clear hy2; have hy2 := ty2; clear ty2
  have ty3 := hy3.below hb5; clear hy3; have hy3 := ty3; clear ty3
  have hx_0 := t.ins; clear t
  have hlx_0 : nx_0 ≤ 1048576 := by have h1 := hx_0.1.1; have h2 := HnP.out; omega
  go_wp2_with fail
  refine (toIntS_sl aQ nQ cQ _ _ hQ.1).mono ?_
  rintro e w6 ⟨ax_1, nx_1, cx_1, rfl, t, hb6⟩
  have hs6 := hb6.size
  have hB6 : Below w.heap.size w w6 := hB5.trans (hb6.mono hB5.size)
  have tP := hP.below hb6; clear hP; have hP := tP; clear tP
  have tQ := hQ.below hb6; clear hQ; have hQ := tQ; clear tQ
  have tL := hL.below hb6; clear hL; have hL := tL; clear tL
  have ty1 := hy1.below hb6; clear hy1; have hy1 := ty1; clear ty1
  have ty2 := hy2.below hb6; clear hy2; have hy2 := ty2; clear ty2
  have ty3 := hy3.below hb6; clear hy3; have hy3 := ty3; clear ty3
  have tx_0 := hx_0.below hb6; clear hx_0; have hx_0 := tx_0; clear tx_0
  have hx_1 := t.ins; clear t
  have hlx_1 : nx_1 ≤ 1048576 := by have h1 := hx_1.1.1; have h2 := HnQ.out; omega
  go_wp2_with fail
  refine (toIntS_sl aL nL cL _ _ hL.1).mono ?_
  rintro e w7 ⟨ax_2, nx_2, cx_2, rfl, t, hb7⟩
  have hs7 := hb7.size
  have hB7 : Below w.heap.size w w7 := hB6.trans (hb7.mono hB6.size)
  have tP := hP.below hb7; clear hP; have hP := tP; clear tP
  have tQ := hQ.below hb7; clear hQ; have hQ := tQ; clear tQ
  have tL := hL.below hb7; clear hL; have hL := tL; clear tL
  have ty1 := hy1.below hb7; clear hy1; have hy1 := ty1; clear ty1
  have ty2 := hy2.below hb7; clear hy2; have hy2 := ty2; clear ty2
  have ty3 := hy3.below hb7; clear hy3; have hy3 := ty3; clear ty3
  have tx_0 := hx_0.below hb7; clear hx_0; have hx_0 := tx_0; clear tx_0
  have tx_1 := hx_1.below hb7; clear hx_1; have hx_1 := tx_1; clear tx_1
  have hx_2 := t.ins; clear t
  have hlx_2 : nx_2 ≤ 1048576 := by have h1 := hx_2.1.1; have h2 := HnL.out; omega
  go_wp2_with fail
  refine (impl_IsOccurrence ax_0 nx_0 cx_0 _  ax_1 nx_1 cx_1 _  ax_2 nx_2 cx_2 _  _ (hx_0.sl (by omega)) (hx_1.sl (by omega)) (hx_2.sl (by omega))).mono ?_
  rintro e w8 ⟨rfl, hb8⟩
  have hs8 := hb8.size
  have hB8 : Below w.heap.size w w8 := hB7.trans (hb8.mono hB7.size)
  have tP := hP.below hb8; clear hP; have hP := tP; clear tP
  have tQ := hQ.below hb8; clear hQ; have hQ := tQ; clear tQ
  have tL := hL.below hb8; clear hL; have hL := tL; clear tL
  have ty1 := hy1.below hb8; clear hy1; have hy1 := ty1; clear ty1
  have ty2 := hy2.below hb8; clear hy2; have hy2 := ty2; clear ty2
  have ty3 := hy3.below hb8; clear hy3; have hy3 := ty3; clear ty3
  have tx_0 := hx_0.below hb8; clear hx_0; have hx_0 := tx_0; clear tx_0
  have tx_1 := hx_1.below hb8; clear hx_1; have hx_1 := tx_1; clear tx_1
  have tx_2 := hx_2.below hb8; clear hx_2; have hx_2 := tx_2; clear tx_2
  go_wp2_with fail
  refine (toIntS_sl aP nP cP _ _ hP.1).mono ?_
  rintro e w9 ⟨ay9, ny9, cy9, rfl, t, hb9⟩
  have hs9 := hb9.size
  have hB9 : Below w.heap.size w w9 := hB8.trans (hb9.mono hB8.size)
  have tP := hP.below hb9; clear hP; have hP := tP; clear tP
  have tQ := hQ.below hb9; clear hQ; have hQ := tQ; clear tQ
  have tL := hL.below hb9; clear hL; have hL := tL; clear tL
  have ty1 := hy1.below hb9; clear hy1; have hy1 := ty1; clear ty1
  have ty2 := hy2.below hb9; clear hy2; have hy2 := ty2; clear ty2
  have ty3 := hy3.below hb9; clear hy3; have hy3 := ty3; clear ty3
  have tx_0 := hx_0.below hb9; clear hx_0; have hx_0 := tx_0; clear tx_0
  have tx_1 := hx_1.below hb9; clear hx_1; have hx_1 := tx_1; clear tx_1
  have tx_2 := hx_2.below hb9; clear hx_2; have hx_2 := tx_2; clear tx_2
  have hy9 := t.ins; clear t
  have hly9 : ny9 ≤ 1048576 := by have h1 := hy9.1.1; have h2 := HnP.out; omega
  go_wp2_with fail
  refine (eqIntS_same ax_0 ay9 nx_0 ny9 cx_0 cy9  _ _ (hx_0.sl (by omega)) (hy9.sl (by omega))).mono ?_
  rintro e w10 ⟨rfl, hb10⟩
  have hs10 := hb10.size
  have hB10 : Below w.heap.size w w10 := hB9.trans (hb10.mono hB9.size)
  have tP := hP.below hb10; clear hP; have hP := tP; clear tP
  have tQ := hQ.below hb10; clear hQ; have hQ := tQ; clear tQ
  have tL := hL.below hb10; clear hL; have hL := tL; clear tL
  have ty1 := hy1.below hb10; clear hy1; have hy1 := ty1; clear ty1
  have ty2 := hy2.below hb10; clear hy2; have hy2 := ty2; clear ty2
  have ty3 := hy3.below hb10; clear hy3; have hy3 := ty3; clear ty3
  have tx_0 := hx_0.below hb10; clear hx_0; have hx_0 := tx_0; clear tx_0
  have tx_1 := hx_1.below hb10; clear hx_1; have hx_1 := tx_1; clear tx_1
  have tx_2 := hx_2.below hb10; clear hx_2; have hx_2 := tx_2; clear tx_2
  have ty9 := hy9.below hb10; clear hy9; have hy9 := ty9; clear ty9
  go_wp2_with fail
  refine (toIntS_sl aQ nQ cQ _ _ hQ.1).mono ?_
  rintro e w11 ⟨ay11, ny11, cy11, rfl, t, hb11⟩
  have hs11 := hb11.size
  have hB11 : Below w.heap.size w w11 := hB10.trans (hb11.mono hB10.size)
  have tP := hP.below hb11; clear hP; have hP := tP; clear tP
  have tQ := hQ.below hb11; clear hQ; have hQ := tQ; clear tQ
  have tL := hL.below hb11; clear hL; have hL := tL; clear tL
  have ty1 := hy1.below hb11; clear hy1; have hy1 := ty1; clear ty1
  have ty2 := hy2.below hb11; clear hy2; have hy2 := ty2; clear ty2
  have ty3 := hy3.below hb11; clear hy3; have hy3 := ty3; clear ty3
  have tx_0 := hx_0.below hb11; clear hx_0; have hx_0 := tx_0; clear tx_0
  have tx_1 := hx_1.below hb11; clear hx_1; have hx_1 := tx_1; clear tx_1
  have tx_2 := hx_2.below hb11; clear hx_2; have hx_2 := tx_2; clear tx_2
  have ty9 := hy9.below hb11; clear hy9; have hy9 := ty9; clear ty9
  have hy11 := t.ins; clear t
  have hly11 : ny11 ≤ 1048576 := by have h1 := hy11.1.1; have h2 := HnQ.out; omega
  go_wp2_with fail
  refine (eqIntS_same ax_1 ay11 nx_1 ny11 cx_1 cy11  _ _ (hx_1.sl (by omega)) (hy11.sl (by omega))).mono ?_
  rintro e w12 ⟨rfl, hb12⟩
  have hs12 := hb12.size
  have hB12 : Below w.heap.size w w12 := hB11.trans (hb12.mono hB11.size)
  have tP := hP.below hb12; clear hP; have hP := tP; clear tP
  have tQ := hQ.below hb12; clear hQ; have hQ := tQ; clear tQ
  have tL := hL.below hb12; clear hL; have hL := tL; clear tL
  have ty1 := hy1.below hb12; clear hy1; have hy1 := ty1; clear ty1
  have ty2 := hy2.below hb12; clear hy2; have hy2 := ty2; clear ty2
  have ty3 := hy3.below hb12; clear hy3; have hy3 := ty3; clear ty3
  have tx_0 := hx_0.below hb12; clear hx_0; have hx_0 := tx_0; clear tx_0
  have tx_1 := hx_1.below hb12; clear hx_1; have hx_1 := tx_1; clear tx_1
  have tx_2 := hx_2.below hb12; clear hx_2; have hx_2 := tx_2; clear tx_2
  have ty9 := hy9.below hb12; clear hy9; have hy9 := ty9; clear ty9
  have ty11 := hy11.below hb12; clear hy11; have hy11 := ty11; clear ty11
  go_wp2_with fail
  refine (toIntS_sl aL nL cL _ _ hL.1).mono ?_
  rintro e w13 ⟨ay13, ny13, cy13, rfl, t, hb13⟩
  have hs13 := hb13.size
  have hB13 : Below w.heap.size w w13 := hB12.trans (hb13.mono hB12.size)
  have tP := hP.below hb13; clear hP; have hP := tP; clear tP
  have tQ := hQ.below hb13; clear hQ; have hQ := tQ; clear tQ
  have tL := hL.below hb13; clear hL; have hL := tL; clear tL
  have ty1 := hy1.below hb13; clear hy1; have hy1 := ty1; clear ty1
  have ty2 := hy2.below hb13; clear hy2; have hy2 := ty2; clear ty2
  have ty3 := hy3.below hb13; clear hy3; have hy3 := ty3; clear ty3
  have tx_0 := hx_0.below hb13; clear hx_0; have hx_0 := tx_0; clear tx_0
  have tx_1 := hx_1.below hb13; clear hx_1; have hx_1 := tx_1; clear tx_1
  have tx_2 := hx_2.below hb13; clear hx_2; have hx_2 := tx_2; clear tx_2
  have ty9 := hy9.below hb13; clear hy9; have hy9 := ty9; clear ty9
  have ty11 := hy11.below hb13; clear hy11; have hy11 := ty11; clear ty11
  have hy13 := t.ins; clear t
  have hly13 : ny13 ≤ 1048576 := by have h1 := hy13.1.1; have h2 := HnL.out; omega
  go_wp2_with fail
  refine (eqIntS_same ax_2 ay13 nx_2 ny13 cx_2 cy13  _ _ (hx_2.sl (by omega)) (hy13.sl (by omega))).mono ?_
  rintro e w14 ⟨rfl, hb14⟩
  have hs14 := hb14.size
  have hB14 : Below w.heap.size w w14 := hB13.trans (hb14.mono hB13.size)
  have tP := hP.below hb14; clear hP; have hP := tP; clear tP
  have tQ := hQ.below hb14; clear hQ; have hQ := tQ; clear tQ
  have tL := hL.below hb14; clear hL; have hL := tL; clear tL
  have ty1 := hy1.below hb14; clear hy1; have hy1 := ty1; clear ty1
  have ty2 := hy2.below hb14; clear hy2; have hy2 := ty2; clear ty2
  have ty3 := hy3.below hb14; clear hy3; have hy3 := ty3; clear ty3
  have tx_0 := hx_0.below hb14; clear hx_0; have hx_0 := tx_0; clear tx_0
  have tx_1 := hx_1.below hb14; clear hx_1; have hx_1 := tx_1; clear tx_1
  have tx_2 := hx_2.below hb14; clear hx_2; have hx_2 := tx_2; clear tx_2
  have ty9 := hy9.below hb14; clear hy9; have hy9 := ty9; clear ty9
  have ty11 := hy11.below hb14; clear hy11; have hy11 := ty11; clear ty11
  have ty13 := hy13.below hb14; clear hy13; have hy13 := ty13; clear ty13
  go_wp2
  go_ret
  exact ⟨rfl, hB14⟩
end Go.Proofs.Ytjndgppekckhbaa
