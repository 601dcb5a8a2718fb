/- The walk of the law FnExactInflateBy: it returns true, and writes to nothing that was there. -/
import Derived.Test.YtjbdelligalmdaaF37
import Derived.Test.YtjbdelligalmdaaFrame
import Derived.Test.YtjbdelligalmdaaFrII
namespace Go.Proofs.Ytjbdelligalmdaa
open Go.RowKit

set_option maxHeartbeats 1600000 in
set_option maxRecDepth 100000 in
theorem FnExactInflateBy_walk (aP : Option Addr) (nP cP : Nat) (xP : List Int) (aList : Option Addr) (nList cList : Nat) (xList : List (List Int)) {w : World} (hinP : InInts w aP nP cP xP) (hinList : InIntss w aList nList cList xList) :
    Calls Try.prog 10 #[.slice aP nP cP, .slice aList nList cList] w fun e w' => e = .returned (.bool true) ∧ Below w.heap.size w w' := by

  obtain ⟨hiP, hnP, hcP, hmP, hzP⟩ := hinP
  have HnP := Lib.hid hnP; clear hnP
  unfold maxLen at hmP
  by_cases hbigP : 1048576 < nP
  · go_enter Try.func10, Try.ntmps10
    go_wp2
    go_ret
    exact ⟨rfl, Below.refl _ _⟩
  have hlP : nP ≤ 1048576 := by omega
  clear hbigP hmP
  have hP : ArgI w w.heap.size aP nP cP xP := SlI.arg ⟨hiP, HnP.out, by omega, hcP, hzP⟩
  clear hiP
  have hC0 := szIntSS_any aList nList cList xList 1048576 w hinList (by omega) (by omega)
  go_enter Try.func10, Try.ntmps10
  go_wp2_with fail
  refine hC0.mono ?_
  rintro e w1 ⟨z, rfl, hw1, hz1, hz2, hz3⟩
  obtain rfl : w = w1 := hw1.symm
  clear hC0
  by_cases hneg : z < 0
  · clear hz3
    go_wp2
    go_ret
    exact ⟨rfl, Below.refl _ _⟩
  have hsum : nList + totL xList ≤ 1048576 := by omega
  have hiisList : IIs w aList nList cList xList := hinList.iis (by omega)
  have hlList : nList ≤ 1048576 := by omega
  have HnTList : Hid (totL xList ≤ 1048576 ∧ (xList).length ≤ 1048576) := ⟨by omega, by rw [hinList.2.1]; omega⟩
  have HBList : Hid (totL xList ≤ 2097152 ∧ (xList).length ≤ 2097152) := ⟨by have := HnTList.out; omega, by have := HnTList.out; omega⟩
  have hList : ArgII w w.heap.size aList nList cList xList := hiisList.arg
  clear hiisList hsum hz3 hinList
  go_wp2_with fail
  refine (toIntS_sl aP nP cP _ _ hP.1).mono ?_
  rintro e w1 ⟨ay1, ny1, cy1, rfl, t, hb1⟩
  have hs1 := hb1.size
  have hB1 : Below w.heap.size w w1 := hb1
  have tP := hP.below hb1; clear hP; have hP := tP; clear tP
  have tList := hList.below hb1; clear hList; have hList := tList; clear tList
  have hy1 := t.ins; clear t
  have hly1 : ny1 ≤ 1048576 := by have h1 := hy1.1.1; have h2 := HnP.out; omega
  go_wp2_with fail
  refine (toIntSS_any aList nList cList _ _ hList.iis).mono ?_
  rintro e w2 ⟨ay2, ny2, cy2, rfl, t, hb2⟩
  have hs2 := hb2.size
  have hB2 : Below w.heap.size w w2 := hB1.trans (hb2.mono hB1.size)
  have tP := hP.below hb2; clear hP; have hP := tP; clear tP
  have tList := hList.below hb2; clear hList; have hList := tList; clear tList
  have ty1 := hy1.below hb2; clear hy1; have hy1 := ty1; clear ty1
  have hy2 := t; clear t
  have hly2 : ny2 ≤ 2097152 := by have h1 := hy2.len; have h2 := (HBList.out).2; omega
  go_wp2_with fail
  refine (spec_InflateBy ay1 ny1 cy1 _  ay2 ny2 cy2 _  _ (hy1.sl (by omega)) (hy2.iisT (HBList.out))).mono ?_
  rintro e w3 ⟨aw0, nw0, cw0, rfl, t, hb3⟩
  have hs3 := hb3.size
  have hB3 : Below w.heap.size w w3 := hB2.trans (hb3.mono hB2.size)
  have tP := hP.below hb3; clear hP; have hP := tP; clear tP
  have tList := hList.below hb3; clear hList; have hList := tList; clear tList
  have ty1 := hy1.below hb3; clear hy1; have hy1 := ty1; clear ty1
  have ty2 := hy2.below hb3; clear hy2; have hy2 := ty2; clear ty2
  have hw0 := t.ins; clear t
  have hlw0 : nw0 ≤ 1048576 := by have h1 := hw0.1.1; have h2 := length_infP xP xList; omega
  go_wp2_with fail
  refine (toIntS_sl aP nP cP _ _ hP.1).mono ?_
  rintro e w4 ⟨ax_0, nx_0, cx_0, rfl, t, hb4⟩
  have hs4 := hb4.size
  have hB4 : Below w.heap.size w w4 := hB3.trans (hb4.mono hB3.size)
  have tP := hP.below hb4; clear hP; have hP := tP; clear tP
  have tList := hList.below hb4; clear hList; have hList := tList; clear tList
  have ty1 := hy1.below hb4; clear hy1; have hy1 := ty1; clear ty1
  have ty2 := hy2.below hb4; clear hy2; have hy2 := ty2; clear ty2
  have tw0 := hw0.below hb4; clear hw0; have hw0 := tw0; clear tw0
  have hx_0 := t.ins; clear t
  have hlx_0 : nx_0 ≤ 1048576 := by have h1 := hx_0.1.1; have h2 := HnP.out; omega
  go_wp2_with fail
  refine (toIntSS_any aList nList cList _ _ hList.iis).mono ?_
  rintro e w5 ⟨ax_1, nx_1, cx_1, rfl, t, hb5⟩
  have hs5 := hb5.size
  have hB5 : Below w.heap.size w w5 := hB4.trans (hb5.mono hB4.size)
  have tP := hP.below hb5; clear hP; have hP := tP; clear tP
  have tList := hList.below hb5; clear hList; have hList := tList; clear tList
  have ty1 := hy1.below hb5; clear hy1; have hy1 := ty1; clear ty1
  have ty2 := hy2.below hb5; clear hy2; have hy2 := ty2; clear ty2
  have tw0 := hw0.below hb5; clear hw0; have hw0 := tw0; clear tw0
  have tx_0 := hx_0.below hb5; clear hx_0; have hx_0 := tx_0; clear tx_0
  have hx_1 := t; clear t
  have hlx_1 : nx_1 ≤ 2097152 := by have h1 := hx_1.len; have h2 := (HBList.out).2; omega
  go_wp2_with fail
  refine (impl_InflateBy ax_0 nx_0 cx_0 _  ax_1 nx_1 cx_1 _  _ (hx_0.sl (by omega)) (hx_1.iisT (HBList.out))).mono ?_
  rintro e w6 ⟨ag0, ng0, cg0, rfl, t, hb6⟩
  have hs6 := hb6.size
  have hB6 : Below w.heap.size w w6 := hB5.trans (hb6.mono hB5.size)
  have tP := hP.below hb6; clear hP; have hP := tP; clear tP
  have tList := hList.below hb6; clear hList; have hList := tList; clear tList
  have ty1 := hy1.below hb6; clear hy1; have hy1 := ty1; clear ty1
  have ty2 := hy2.below hb6; clear hy2; have hy2 := ty2; clear ty2
  have tw0 := hw0.below hb6; clear hw0; have hw0 := tw0; clear tw0
  have tx_0 := hx_0.below hb6; clear hx_0; have hx_0 := tx_0; clear tx_0
  have tx_1 := hx_1.below hb6; clear hx_1; have hx_1 := tx_1; clear tx_1
  have hg0 := t.ins; clear t
  have hlg0 : ng0 ≤ 1048576 := by have h1 := hg0.1.1; have h2 := length_infP xP xList; omega
  go_wp2_with fail
  refine (eqIntS_same ag0 aw0 ng0 nw0 cg0 cw0  _ _ (hg0.sl (by omega)) (hw0.sl (by omega))).mono ?_
  rintro e w7 ⟨rfl, hb7⟩
  have hs7 := hb7.size
  have hB7 : Below w.heap.size w w7 := hB6.trans (hb7.mono hB6.size)
  have tP := hP.below hb7; clear hP; have hP := tP; clear tP
  have tList := hList.below hb7; clear hList; have hList := tList; clear tList
  have ty1 := hy1.below hb7; clear hy1; have hy1 := ty1; clear ty1
  have ty2 := hy2.below hb7; clear hy2; have hy2 := ty2; clear ty2
  have tw0 := hw0.below hb7; clear hw0; have hw0 := tw0; clear tw0
  have tx_0 := hx_0.below hb7; clear hx_0; have hx_0 := tx_0; clear tx_0
  have tx_1 := hx_1.below hb7; clear hx_1; have hx_1 := tx_1; clear tx_1
  have tg0 := hg0.below hb7; clear hg0; have hg0 := tg0; clear tg0
  go_wp2_with fail
  refine (toIntS_sl aP nP cP _ _ hP.1).mono ?_
  rintro e w8 ⟨ay8, ny8, cy8, rfl, t, hb8⟩
  have hs8 := hb8.size
  have hB8 : Below w.heap.size w w8 := hB7.trans (hb8.mono hB7.size)
  have tP := hP.below hb8; clear hP; have hP := tP; clear tP
  have tList := hList.below hb8; clear hList; have hList := tList; clear tList
  have ty1 := hy1.below hb8; clear hy1; have hy1 := ty1; clear ty1
  have ty2 := hy2.below hb8; clear hy2; have hy2 := ty2; clear ty2
  have tw0 := hw0.below hb8; clear hw0; have hw0 := tw0; clear tw0
  have tx_0 := hx_0.below hb8; clear hx_0; have hx_0 := tx_0; clear tx_0
  have tx_1 := hx_1.below hb8; clear hx_1; have hx_1 := tx_1; clear tx_1
  have tg0 := hg0.below hb8; clear hg0; have hg0 := tg0; clear tg0
  have hy8 := t.ins; clear t
  have hly8 : ny8 ≤ 1048576 := by have h1 := hy8.1.1; have h2 := HnP.out; omega
  go_wp2_with fail
  refine (eqIntS_same ax_0 ay8 nx_0 ny8 cx_0 cy8  _ _ (hx_0.sl (by omega)) (hy8.sl (by omega))).mono ?_
  rintro e w9 ⟨rfl, hb9⟩
  have hs9 := hb9.size
  have hB9 : Below w.heap.size w w9 := hB8.trans (hb9.mono hB8.size)
  have tP := hP.below hb9; clear hP; have hP := tP; clear tP
  have tList := hList.below hb9; clear hList; have hList := tList; clear tList
  have ty1 := hy1.below hb9; clear hy1; have hy1 := ty1; clear ty1
  have ty2 := hy2.below hb9; clear hy2; have hy2 := ty2; clear ty2
  have tw0 := hw0.below hb9; clear hw0; have hw0 := tw0; clear tw0
  have tx_0 := hx_0.below hb9; clear hx_0; have hx_0 := tx_0; clear tx_0
  have tx_1 := hx_1.below hb9; clear hx_1; have hx_1 := tx_1; clear tx_1
  have tg0 := hg0.below hb9; clear hg0; have hg0 := tg0; clear tg0
  have ty8 := hy8.below hb9; clear hy8; have hy8 := ty8; clear ty8
  go_wp2_with fail
  refine (toIntSS_any aList nList cList _ _ hList.iis).mono ?_
  rintro e w10 ⟨ay10, ny10, cy10, rfl, t, hb10⟩
  have hs10 := hb10.size
  have hB10 : Below w.heap.size w w10 := hB9.trans (hb10.mono hB9.size)
  have tP := hP.below hb10; clear hP; have hP := tP; clear tP
  have tList := hList.below hb10; clear hList; have hList := tList; clear tList
  have ty1 := hy1.below hb10; clear hy1; have hy1 := ty1; clear ty1
  have ty2 := hy2.below hb10; clear hy2; have hy2 := ty2; clear ty2
  have tw0 := hw0.below hb10; clear hw0; have hw0 := tw0; clear tw0
  have tx_0 := hx_0.below hb10; clear hx_0; have hx_0 := tx_0; clear tx_0
  have tx_1 := hx_1.below hb10; clear hx_1; have hx_1 := tx_1; clear tx_1
  have tg0 := hg0.below hb10; clear hg0; have hg0 := tg0; clear tg0
  have ty8 := hy8.below hb10; clear hy8; have hy8 := ty8; clear ty8
  have hy10 := t; clear t
  have hly10 : ny10 ≤ 2097152 := by have h1 := hy10.len; have h2 := (HBList.out).2; omega
  go_wp2_with fail
  refine (eqIntSS_same ax_1 ay10 nx_1 ny10 cx_1 cy10 _ _ (hx_1.iisT (HBList.out)) (hy10.iisT (HBList.out))).mono ?_
  rintro e w11 ⟨rfl, hb11⟩
  have hs11 := hb11.size
  have hB11 : Below w.heap.size w w11 := hB10.trans (hb11.mono hB10.size)
  have tP := hP.below hb11; clear hP; have hP := tP; clear tP
  have tList := hList.below hb11; clear hList; have hList := tList; clear tList
  have ty1 := hy1.below hb11; clear hy1; have hy1 := ty1; clear ty1
  have ty2 := hy2.below hb11; clear hy2; have hy2 := ty2; clear ty2
  have tw0 := hw0.below hb11; clear hw0; have hw0 := tw0; clear tw0
  have tx_0 := hx_0.below hb11; clear hx_0; have hx_0 := tx_0; clear tx_0
  have tx_1 := hx_1.below hb11; clear hx_1; have hx_1 := tx_1; clear tx_1
  have tg0 := hg0.below hb11; clear hg0; have hg0 := tg0; clear tg0
  have ty8 := hy8.below hb11; clear hy8; have hy8 := ty8; clear ty8
  have ty10 := hy10.below hb11; clear hy10; have hy10 := ty10; clear ty10
  go_wp2_with fail
  refine (markIntS_own ax_0 nx_0 cx_0 _ _ (1) _ _ hx_0 (by omega) (by omega) (by omega)).mono ?_
  rintro e w12 ⟨rfl, om, hb12⟩
  have hs12 := hb12.size
  have tP := hP.out hb12 (by omega)
  clear hP; have hP := tP; clear tP
  have tList := hList.out hb12 (by omega)
  clear hList; have hList := tList; clear tList
  have ty1 := hy1.out hb12 (by omega)
  clear hy1; have hy1 := ty1; clear ty1
  have ty2 := hy2.out hb12 (by omega)
  clear hy2; have hy2 := ty2; clear ty2
  have tw0 := hw0.out hb12 (by omega)
  clear hw0; have hw0 := tw0; clear tw0
  have tx_1 := hx_1.out hb12 (by omega)
  clear hx_1; have hx_1 := tx_1; clear tx_1
  have tg0 := hg0.out hb12 (by omega)
  clear hg0; have hg0 := tg0; clear tg0
  have ty8 := hy8.out hb12 (by omega)
  clear hy8; have hy8 := ty8; clear ty8
  have ty10 := hy10.out hb12 (by omega)
  clear hy10; have hy10 := ty10; clear ty10
  have hB12 : Below w.heap.size w w12 := hB11.trans (hb12.below (by omega) hB11.size)
  clear hx_0; have hx_0 := om; clear om
  have Tx_1 := (HBList.out).1
  go_wp2_with fail
  refine (markIntSS_own ax_1 nx_1 cx_1 _ _ (1 + (nx_0 : Int)) _ _ hx_1 (by omega) Tx_1 (by omega) (by omega)).mono ?_
  rintro e w13 ⟨rfl, om, hb13⟩
  have hs13 := hb13.size
  clear Tx_1
  have tP := hP.out hb13 (by omega)
  clear hP; have hP := tP; clear tP
  have tList := hList.out hb13 (by omega)
  clear hList; have hList := tList; clear tList
  have ty1 := hy1.out hb13 (by omega)
  clear hy1; have hy1 := ty1; clear ty1
  have ty2 := hy2.out hb13 (by omega)
  clear hy2; have hy2 := ty2; clear ty2
  have tw0 := hw0.out hb13 (by omega)
  clear hw0; have hw0 := tw0; clear tw0
  have tx_0 := hx_0.out hb13 (by omega)
  clear hx_0; have hx_0 := tx_0; clear tx_0
  have tg0 := hg0.out hb13 (by omega)
  clear hg0; have hg0 := tg0; clear tg0
  have ty8 := hy8.out hb13 (by omega)
  clear hy8; have hy8 := ty8; clear ty8
  have ty10 := hy10.out hb13 (by omega)
  clear hy10; have hy10 := ty10; clear ty10
  have hB13 : Below w.heap.size w w13 := hB12.trans (hb13.below (by omega) hB12.size)
  clear hx_1; have hx_1 := om; clear om
  go_wp2_with fail
  refine (eqIntS_same ag0 aw0 ng0 nw0 cg0 cw0  _ _ (hg0.sl (by omega)) (hw0.sl (by omega))).mono ?_
  rintro e w14 ⟨rfl, hb14⟩
  have hs14 := hb14.size
  have hB14 : Below w.heap.size w w14 := hB13.trans (hb14.mono hB13.size)
  have tP := hP.below hb14; clear hP; have hP := tP; clear tP
  have tList := hList.below hb14; clear hList; have hList := tList; clear tList
  have ty1 := hy1.below hb14; clear hy1; have hy1 := ty1; clear ty1
  have ty2 := hy2.below hb14; clear hy2; have hy2 := ty2; clear ty2
  have tw0 := hw0.below hb14; clear hw0; have hw0 := tw0; clear tw0
  have tx_0 := hx_0.below hb14; clear hx_0; have hx_0 := tx_0; clear tx_0
  have tx_1 := hx_1.below hb14; clear hx_1; have hx_1 := tx_1; clear tx_1
  have tg0 := hg0.below hb14; clear hg0; have hg0 := tg0; clear tg0
  have ty8 := hy8.below hb14; clear hy8; have hy8 := ty8; clear ty8
  have ty10 := hy10.below hb14; clear hy10; have hy10 := ty10; clear ty10
  go_wp2_with fail
  refine (markIntS_own ag0 ng0 cg0 _ _ (1) _ _ hg0 (by omega) (by omega) (by omega)).mono ?_
  rintro e w15 ⟨rfl, om, hb15⟩
  have hs15 := hb15.size
  have tP := hP.out hb15 (by omega)
  clear hP; have hP := tP; clear tP
  have tList := hList.out hb15 (by omega)
  clear hList; have hList := tList; clear tList
  have ty1 := hy1.out hb15 (by omega)
  clear hy1; have hy1 := ty1; clear ty1
  have ty2 := hy2.out hb15 (by omega)
  clear hy2; have hy2 := ty2; clear ty2
  have tw0 := hw0.out hb15 (by omega)
  clear hw0; have hw0 := tw0; clear tw0
  have tx_0 := hx_0.out hb15 (by omega)
  clear hx_0; have hx_0 := tx_0; clear tx_0
  have tx_1 := hx_1.out hb15 (by omega)
  clear hx_1; have hx_1 := tx_1; clear tx_1
  have ty8 := hy8.out hb15 (by omega)
  clear hy8; have hy8 := ty8; clear ty8
  have ty10 := hy10.out hb15 (by omega)
  clear hy10; have hy10 := ty10; clear ty10
  have hB15 : Below w.heap.size w w15 := hB14.trans (hb15.below (by omega) hB14.size)
  clear hg0; have hg0 := om; clear om
  go_wp2_with fail
  refine (heldIntS_own ag0 ng0 cg0 _ _ (1) _ hg0 (by omega) (by omega) (by omega)).mono ?_
  rintro e w16 ⟨rfl, hb16⟩
  have hs16 := hb16.size
  have hB16 : Below w.heap.size w w16 := hB15.trans (hb16.mono hB15.size)
  have tP := hP.below hb16; clear hP; have hP := tP; clear tP
  have tList := hList.below hb16; clear hList; have hList := tList; clear tList
  have ty1 := hy1.below hb16; clear hy1; have hy1 := ty1; clear ty1
  have ty2 := hy2.below hb16; clear hy2; have hy2 := ty2; clear ty2
  have tw0 := hw0.below hb16; clear hw0; have hw0 := tw0; clear tw0
  have tx_0 := hx_0.below hb16; clear hx_0; have hx_0 := tx_0; clear tx_0
  have tx_1 := hx_1.below hb16; clear hx_1; have hx_1 := tx_1; clear tx_1
  have tg0 := hg0.below hb16; clear hg0; have hg0 := tg0; clear tg0
  have ty8 := hy8.below hb16; clear hy8; have hy8 := ty8; clear ty8
  have ty10 := hy10.below hb16; clear hy10; have hy10 := ty10; clear ty10
  go_wp2_with fail
  refine (toIntS_sl aP nP cP _ _ hP.1).mono ?_
  rintro e w17 ⟨ay17, ny17, cy17, rfl, t, hb17⟩
  have hs17 := hb17.size
  have hB17 : Below w.heap.size w w17 := hB16.trans (hb17.mono hB16.size)
  have tP := hP.below hb17; clear hP; have hP := tP; clear tP
  have tList := hList.below hb17; clear hList; have hList := tList; clear tList
  have ty1 := hy1.below hb17; clear hy1; have hy1 := ty1; clear ty1
  have ty2 := hy2.below hb17; clear hy2; have hy2 := ty2; clear ty2
  have tw0 := hw0.below hb17; clear hw0; have hw0 := tw0; clear tw0
  have tx_0 := hx_0.below hb17; clear hx_0; have hx_0 := tx_0; clear tx_0
  have tx_1 := hx_1.below hb17; clear hx_1; have hx_1 := tx_1; clear tx_1
  have tg0 := hg0.below hb17; clear hg0; have hg0 := tg0; clear tg0
  have ty8 := hy8.below hb17; clear hy8; have hy8 := ty8; clear ty8
  have ty10 := hy10.below hb17; clear hy10; have hy10 := ty10; clear ty10
  have hy17 := t.ins; clear t
  have hly17 : ny17 ≤ 1048576 := by have h1 := hy17.1.1; have h2 := HnP.out; omega
  go_wp2_with fail
  refine (toIntSS_any aList nList cList _ _ hList.iis).mono ?_
  rintro e w18 ⟨ay18, ny18, cy18, rfl, t, hb18⟩
  have hs18 := hb18.size
  have hB18 : Below w.heap.size w w18 := hB17.trans (hb18.mono hB17.size)
  have tP := hP.below hb18; clear hP; have hP := tP; clear tP
  have tList := hList.below hb18; clear hList; have hList := tList; clear tList
  have ty1 := hy1.below hb18; clear hy1; have hy1 := ty1; clear ty1
  have ty2 := hy2.below hb18; clear hy2; have hy2 := ty2; clear ty2
  have tw0 := hw0.below hb18; clear hw0; have hw0 := tw0; clear tw0
  have tx_0 := hx_0.below hb18; clear hx_0; have hx_0 := tx_0; clear tx_0
  have tx_1 := hx_1.below hb18; clear hx_1; have hx_1 := tx_1; clear tx_1
  have tg0 := hg0.below hb18; clear hg0; have hg0 := tg0; clear tg0
  have ty8 := hy8.below hb18; clear hy8; have hy8 := ty8; clear ty8
  have ty10 := hy10.below hb18; clear hy10; have hy10 := ty10; clear ty10
  have ty17 := hy17.below hb18; clear hy17; have hy17 := ty17; clear ty17
  have hy18 := t; clear t
  have hly18 : ny18 ≤ 2097152 := by have h1 := hy18.len; have h2 := (HBList.out).2; omega
  go_wp2_with fail
  refine (impl_InflateBy ay17 ny17 cy17 _  ay18 ny18 cy18 _  _ (hy17.sl (by omega)) (hy18.iisT (HBList.out))).mono ?_
  rintro e w19 ⟨ah0, nh0, ch0, rfl, t, hb19⟩
  have hs19 := hb19.size
  have hB19 : Below w.heap.size w w19 := hB18.trans (hb19.mono hB18.size)
  have tP := hP.below hb19; clear hP; have hP := tP; clear tP
  have tList := hList.below hb19; clear hList; have hList := tList; clear tList
  have ty1 := hy1.below hb19; clear hy1; have hy1 := ty1; clear ty1
  have ty2 := hy2.below hb19; clear hy2; have hy2 := ty2; clear ty2
  have tw0 := hw0.below hb19; clear hw0; have hw0 := tw0; clear tw0
  have tx_0 := hx_0.below hb19; clear hx_0; have hx_0 := tx_0; clear tx_0
  have tx_1 := hx_1.below hb19; clear hx_1; have hx_1 := tx_1; clear tx_1
  have tg0 := hg0.below hb19; clear hg0; have hg0 := tg0; clear tg0
  have ty8 := hy8.below hb19; clear hy8; have hy8 := ty8; clear ty8
  have ty10 := hy10.below hb19; clear hy10; have hy10 := ty10; clear ty10
  have ty17 := hy17.below hb19; clear hy17; have hy17 := ty17; clear ty17
  have ty18 := hy18.below hb19; clear hy18; have hy18 := ty18; clear ty18
  have hh0 := t.ins; clear t
  have hlh0 : nh0 ≤ 1048576 := by have h1 := hh0.1.1; have h2 := length_infP xP xList; omega
  go_wp2_with fail
  refine (eqIntS_same ah0 aw0 nh0 nw0 ch0 cw0  _ _ (hh0.sl (by omega)) (hw0.sl (by omega))).mono ?_
  rintro e w20 ⟨rfl, hb20⟩
  have hs20 := hb20.size
  have hB20 : Below w.heap.size w w20 := hB19.trans (hb20.mono hB19.size)
  have tP := hP.below hb20; clear hP; have hP := tP; clear tP
  have tList := hList.below hb20; clear hList; have hList := tList; clear tList
  have ty1 := hy1.below hb20; clear hy1; have hy1 := ty1; clear ty1
  have ty2 := hy2.below hb20; clear hy2; have hy2 := ty2; clear ty2
  have tw0 := hw0.below hb20; clear hw0; have hw0 := tw0; clear tw0
  have tx_0 := hx_0.below hb20; clear hx_0; have hx_0 := tx_0; clear tx_0
  have tx_1 := hx_1.below hb20; clear hx_1; have hx_1 := tx_1; clear tx_1
  have tg0 := hg0.below hb20; clear hg0; have hg0 := tg0; clear tg0
  have ty8 := hy8.below hb20; clear hy8; have hy8 := ty8; clear ty8
  have ty10 := hy10.below hb20; clear hy10; have hy10 := ty10; clear ty10
  have ty17 := hy17.below hb20; clear hy17; have hy17 := ty17; clear ty17
  have ty18 := hy18.below hb20; clear hy18; have hy18 := ty18; clear ty18
  have th0 := hh0.below hb20; clear hh0; have hh0 := th0; clear th0
  go_wp2_with fail
  refine (heldIntS_own ag0 ng0 cg0 _ _ (1) _ hg0 (by omega) (by omega) (by omega)).mono ?_
  rintro e w21 ⟨rfl, hb21⟩
  have hs21 := hb21.size
  have hB21 : Below w.heap.size w w21 := hB20.trans (hb21.mono hB20.size)
  have tP := hP.below hb21; clear hP; have hP := tP; clear tP
  have tList := hList.below hb21; clear hList; have hList := tList; clear tList
  have ty1 := hy1.below hb21; clear hy1; have hy1 := ty1; clear ty1
  have ty2 := hy2.below hb21; clear hy2; have hy2 := ty2; clear ty2
  have tw0 := hw0.below hb21; clear hw0; have hw0 := tw0; clear tw0
  have tx_0 := hx_0.below hb21; clear hx_0; have hx_0 := tx_0; clear tx_0
  have tx_1 := hx_1.below hb21; clear hx_1; have hx_1 := tx_1; clear tx_1
  have tg0 := hg0.below hb21; clear hg0; have hg0 := tg0; clear tg0
  have ty8 := hy8.below hb21; clear hy8; have hy8 := ty8; clear ty8
  have ty10 := hy10.below hb21; clear hy10; have hy10 := ty10; clear ty10
  have ty17 := hy17.below hb21; clear hy17; have hy17 := ty17; clear ty17
  have ty18 := hy18.below hb21; clear hy18; have hy18 := ty18; clear ty18
  have th0 := hh0.below hb21; clear hh0; have hh0 := th0; clear th0
  go_wp2
  go_ret
  exact ⟨rfl, hB21⟩
end Go.Proofs.Ytjbdelligalmdaa
