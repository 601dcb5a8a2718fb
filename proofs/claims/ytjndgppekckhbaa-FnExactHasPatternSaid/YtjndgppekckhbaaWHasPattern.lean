/- The walk of the law FnExactHasPattern: it returns true, and writes to nothing that was there. -/
import Derived.Test.YtjndgppekckhbaaF32
import Derived.Test.YtjndgppekckhbaaFrame
namespace Go.Proofs.Ytjndgppekckhbaa
open Go.RowKit

set_option maxHeartbeats 1600000 in
set_option maxRecDepth 100000 in
theorem FnExactHasPattern_walk (aP : Option Addr) (nP cP : Nat) (xP : List Int) (aQ : Option Addr) (nQ cQ : Nat) (xQ : List Int) {w : World} (hinP : InInts w aP nP cP xP) (hinQ : InInts w aQ nQ cQ xQ) :
    Calls Try.prog 5 #[.slice aP nP cP, .slice aQ nQ cQ] w fun e w' => e = .returned (.bool true) ∧ Below w.heap.size w w' := by

  obtain ⟨hiP, hnP, hcP, hmP, hzP⟩ := hinP
  have HnP := Lib.hid hnP; clear hnP
  unfold maxLen at hmP
  obtain ⟨hiQ, hnQ, hcQ, hmQ, hzQ⟩ := hinQ
  have HnQ := Lib.hid hnQ; clear hnQ
  unfold maxLen at hmQ
  by_cases hbigP : 1048576 < nP
  · go_enter Try.func5, Try.ntmps5
    go_wp2
    go_ret
    exact ⟨rfl, Below.refl _ _⟩
  have hlP : nP ≤ 1048576 := by omega
  clear hbigP hmP
  by_cases hbigQ : 1048576 < nQ
  · go_enter Try.func5, Try.ntmps5
    go_wp2
    go_ret
    exact ⟨rfl, Below.refl _ _⟩
  have hlQ : nQ ≤ 1048576 := by omega
  clear hbigQ hmQ
  have hP : ArgI w w.heap.size aP nP cP xP := SlI.arg ⟨hiP, HnP.out, by omega, hcP, hzP⟩
  clear hiP
  have hQ : ArgI w w.heap.size aQ nQ cQ xQ := SlI.arg ⟨hiQ, HnQ.out, by omega, hcQ, hzQ⟩
  clear hiQ
  go_enter Try.func5, Try.ntmps5
  go_wp2_with fail
  refine (toIntS_sl aP nP cP _ _ hP.1).mono ?_
  rintro e w1 ⟨ay1, ny1, cy1, rfl, t, hb1⟩
  have hs1 := hb1.size
  have hB1 : Below w.heap.size w w1 := hb1
  have tP := hP.below hb1; clear hP; have hP := tP; clear tP
  have tQ := hQ.below hb1; clear hQ; have hQ := tQ; clear tQ
  have hy1 := t.ins; clear t
  have hly1 : ny1 ≤ 1048576 := by have h1 := hy1.1.1; have h2 := HnP.out; omega
  go_wp2_with fail
  refine (toIntS_sl aQ nQ cQ _ _ hQ.1).mono ?_
  rintro e w2 ⟨ay2, ny2, cy2, rfl, t, hb2⟩
  have hs2 := hb2.size
  have hB2 : Below w.heap.size w w2 := hB1.trans (hb2.mono hB1.size)
  have tP := hP.below hb2; clear hP; have hP := tP; clear tP
  have tQ := hQ.below hb2; clear hQ; have hQ := tQ; clear tQ
  have ty1 := hy1.below hb2; clear hy1; have hy1 := ty1; clear ty1
  have hy2 := t.ins; clear t
  have hly2 : ny2 ≤ 1048576 := by have h1 := hy2.1.1; have h2 := HnQ.out; omega
  go_wp2_with fail
  refine (spec_HasPattern ay1 ny1 cy1 _  ay2 ny2 cy2 _  _ (hy1.sl (by omega)) (hy2.sl (by omega))).mono ?_
  rintro e w3 ⟨rfl, hb3⟩
  have hs3 := hb3.size
  have hB3 : Below w.heap.size w w3 := hB2.trans (hb3.mono hB2.size)
  have tP := hP.below hb3; clear hP; have hP := tP; clear tP
  have tQ := hQ.below hb3; clear hQ; have hQ := tQ; clear tQ
  have ty1 := hy1.below hb3; clear hy1; have hy1 := ty1; clear ty1
  have ty2 := hy2.below hb3; clear hy2; have hy2 := ty2; clear ty2
  go_wp2_with fail
  refine (toIntS_sl aP nP cP _ _ hP.1).mono ?_
  rintro e w4 ⟨ax_0, nx_0, cx_0, rfl, t, hb4⟩
  have hs4 := hb4.size
  have hB4 : Below w.heap.size w w4 := hB3.trans (hb4.mono hB3.size)
  have tP := hP.below hb4; clear hP; have hP := tP; clear tP
  have tQ := hQ.below hb4; clear hQ; have hQ := tQ; clear tQ
  have ty1 := hy1.below hb4; clear hy1; have hy1 := ty1; clear ty1
  have ty2 := hy2.below hb4; clear hy2; have hy2 := ty2; clear ty2
  have hx_0 := t.ins; clear t
  have hlx_0 : nx_0 ≤ 1048576 := by have h1 := hx_0.1.1; have h2 := HnP.out; omega
  go_wp2_with fail
  refine (toIntS_sl aQ nQ cQ _ _ hQ.1).mono ?_
  rintro e w5 ⟨ax_1, nx_1, cx_1, rfl, t, hb5⟩
  have hs5 := hb5.size
  have hB5 : Below w.heap.size w w5 := hB4.trans (hb5.mono hB4.size)
  have tP := hP.below hb5; clear hP; have hP := tP; clear tP
  have tQ := hQ.below hb5; clear hQ; have hQ := tQ; clear tQ
  have ty1 := hy1.below hb5; clear hy1; have hy1 := ty1; clear ty1
  have ty2 := hy2.below hb5; clear hy2; have hy2 := ty2; clear ty2
  have tx_0 := hx_0.below hb5; clear hx_0; have hx_0 := tx_0; clear tx_0
  have hx_1 := t.ins; clear t
  have hlx_1 : nx_1 ≤ 1048576 := by have h1 := hx_1.1.1; have h2 := HnQ.out; omega
  go_wp2_with fail
  refine (impl_HasPattern ax_0 nx_0 cx_0 _  ax_1 nx_1 cx_1 _  _ (hx_0.sl (by omega)) (hx_1.sl (by omega))).mono ?_
  rintro e w6 ⟨rfl, hb6⟩
  have hs6 := hb6.size
  have hB6 : Below w.heap.size w w6 := hB5.trans (hb6.mono hB5.size)
  have tP := hP.below hb6; clear hP; have hP := tP; clear tP
  have tQ := hQ.below hb6; clear hQ; have hQ := tQ; clear tQ
  have ty1 := hy1.below hb6; clear hy1; have hy1 := ty1; clear ty1
  have ty2 := hy2.below hb6; clear hy2; have hy2 := ty2; clear ty2
  have tx_0 := hx_0.below hb6; clear hx_0; have hx_0 := tx_0; clear tx_0
  have tx_1 := hx_1.below hb6; clear hx_1; have hx_1 := tx_1; clear tx_1
  go_wp2_with fail
  refine (toIntS_sl aP nP cP _ _ hP.1).mono ?_
  rintro e w7 ⟨ay7, ny7, cy7, rfl, t, hb7⟩
  have hs7 := hb7.size
  have hB7 : Below w.heap.size w w7 := hB6.trans (hb7.mono hB6.size)
  have tP := hP.below hb7; clear hP; have hP := tP; clear tP
  have tQ := hQ.below hb7; clear hQ; have hQ := tQ; clear tQ
  have ty1 := hy1.below hb7; clear hy1; have hy1 := ty1; clear ty1
  have ty2 := hy2.below hb7; clear hy2; have hy2 := ty2; clear ty2
  have tx_0 := hx_0.below hb7; clear hx_0; have hx_0 := tx_0; clear tx_0
  have tx_1 := hx_1.below hb7; clear hx_1; have hx_1 := tx_1; clear tx_1
  have hy7 := t.ins; clear t
  have hly7 : ny7 ≤ 1048576 := by have h1 := hy7.1.1; have h2 := HnP.out; omega
  go_wp2_with fail
  refine (eqIntS_same ax_0 ay7 nx_0 ny7 cx_0 cy7  _ _ (hx_0.sl (by omega)) (hy7.sl (by omega))).mono ?_
  rintro e w8 ⟨rfl, hb8⟩
  have hs8 := hb8.size
  have hB8 : Below w.heap.size w w8 := hB7.trans (hb8.mono hB7.size)
  have tP := hP.below hb8; clear hP; have hP := tP; clear tP
  have tQ := hQ.below hb8; clear hQ; have hQ := tQ; clear tQ
  have ty1 := hy1.below hb8; clear hy1; have hy1 := ty1; clear ty1
  have ty2 := hy2.below hb8; clear hy2; have hy2 := ty2; clear ty2
  have tx_0 := hx_0.below hb8; clear hx_0; have hx_0 := tx_0; clear tx_0
  have tx_1 := hx_1.below hb8; clear hx_1; have hx_1 := tx_1; clear tx_1
  have ty7 := hy7.below hb8; clear hy7; have hy7 := ty7; clear ty7
  go_wp2_with fail
  refine (toIntS_sl aQ nQ cQ _ _ hQ.1).mono ?_
  rintro e w9 ⟨ay9, ny9, cy9, rfl, t, hb9⟩
  have hs9 := hb9.size
  have hB9 : Below w.heap.size w w9 := hB8.trans (hb9.mono hB8.size)
  have tP := hP.below hb9; clear hP; have hP := tP; clear tP
  have tQ := hQ.below hb9; clear hQ; have hQ := tQ; clear tQ
  have ty1 := hy1.below hb9; clear hy1; have hy1 := ty1; clear ty1
  have ty2 := hy2.below hb9; clear hy2; have hy2 := ty2; clear ty2
  have tx_0 := hx_0.below hb9; clear hx_0; have hx_0 := tx_0; clear tx_0
  have tx_1 := hx_1.below hb9; clear hx_1; have hx_1 := tx_1; clear tx_1
  have ty7 := hy7.below hb9; clear hy7; have hy7 := ty7; clear ty7
  have hy9 := t.ins; clear t
  have hly9 : ny9 ≤ 1048576 := by have h1 := hy9.1.1; have h2 := HnQ.out; omega
  go_wp2_with fail
  refine (eqIntS_same ax_1 ay9 nx_1 ny9 cx_1 cy9  _ _ (hx_1.sl (by omega)) (hy9.sl (by omega))).mono ?_
  rintro e w10 ⟨rfl, hb10⟩
  have hs10 := hb10.size
  have hB10 : Below w.heap.size w w10 := hB9.trans (hb10.mono hB9.size)
  have tP := hP.below hb10; clear hP; have hP := tP; clear tP
  have tQ := hQ.below hb10; clear hQ; have hQ := tQ; clear tQ
  have ty1 := hy1.below hb10; clear hy1; have hy1 := ty1; clear ty1
  have ty2 := hy2.below hb10; clear hy2; have hy2 := ty2; clear ty2
  have tx_0 := hx_0.below hb10; clear hx_0; have hx_0 := tx_0; clear tx_0
  have tx_1 := hx_1.below hb10; clear hx_1; have hx_1 := tx_1; clear tx_1
  have ty7 := hy7.below hb10; clear hy7; have hy7 := ty7; clear ty7
  have ty9 := hy9.below hb10; clear hy9; have hy9 := ty9; clear ty9
  go_wp2
  go_ret
  exact ⟨rfl, hB10⟩
end Go.Proofs.Ytjndgppekckhbaa
