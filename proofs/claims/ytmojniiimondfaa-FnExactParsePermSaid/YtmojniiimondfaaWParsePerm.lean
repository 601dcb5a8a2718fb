/- The walk of the law FnExactParsePerm: it returns true, and writes to nothing that was there. -/
import Derived.Test.YtmojniiimondfaaS03
import Derived.Test.YtmojniiimondfaaFrame
namespace Go.Proofs.Ytmojniiimondfaa
open Go.RowKit

set_option maxHeartbeats 1600000 in
set_option maxRecDepth 100000 in
theorem FnExactParsePerm_walk (sText : ByteArray) {w : World} (hwText : sText.size ≤ maxLen) :
    Calls Try.prog 8 #[.string sText] w fun e w' => e = .returned (.bool true) ∧ Below w.heap.size w w' := by

  by_cases hbigText : 1048576 < sText.size
  · go_enter Try.func8, Try.ntmps8
    go_wp2
    go_ret
    exact ⟨rfl, Below.refl _ _⟩
  have hlText : sText.size ≤ 1048576 := by omega
  clear hbigText hwText
  go_enter Try.func8, Try.ntmps8
  go_wp2_with fail
  refine (spec_ParsePerm sText _ hlText).mono ?_
  rintro e w1 ⟨aw0, nw0, cw0, rfl, t, hb1⟩
  have hs1 := hb1.size
  have hB1 : Below w.heap.size w w1 := hb1
  have hw0 := t.ins; clear t
  have hlw0 : nw0 ≤ 1048576 := by have h1 := hw0.1.1; have h2 := length_prsP sText; omega
  go_wp2_with fail
  refine (impl_ParsePerm sText _ hlText).mono ?_
  rintro e w2 ⟨ag0, ng0, cg0, rfl, t, hb2⟩
  have hs2 := hb2.size
  have hB2 : Below w.heap.size w w2 := hB1.trans (hb2.mono hB1.size)
  have tw0 := hw0.below hb2; clear hw0; have hw0 := tw0; clear tw0
  have hg0 := t.ins; clear t
  have hlg0 : ng0 ≤ 1048576 := by have h1 := hg0.1.1; have h2 := length_prsP sText; omega
  go_wp2_with fail
  refine (eqIntS_same ag0 aw0 ng0 nw0 cg0 cw0  _ _ (hg0.sl (by omega)) (hw0.sl (by omega))).mono ?_
  rintro e w3 ⟨rfl, hb3⟩
  have hs3 := hb3.size
  have hB3 : Below w.heap.size w w3 := hB2.trans (hb3.mono hB2.size)
  have tw0 := hw0.below hb3; clear hw0; have hw0 := tw0; clear tw0
  have tg0 := hg0.below hb3; clear hg0; have hg0 := tg0; clear tg0
  go_wp2_with fail
  refine (markIntS_own ag0 ng0 cg0 _ _ (1) _ _ hg0 (by omega) (by omega) (by omega)).mono ?_
  rintro e w4 ⟨rfl, om, hb4⟩
  have hs4 := hb4.size
  have tw0 := hw0.out hb4 (by omega)
  clear hw0; have hw0 := tw0; clear tw0
  have hB4 : Below w.heap.size w w4 := hB3.trans (hb4.below (by omega) hB3.size)
  clear hg0; have hg0 := om; clear om
  go_wp2_with fail
  refine (heldIntS_own ag0 ng0 cg0 _ _ (1) _ hg0 (by omega) (by omega) (by omega)).mono ?_
  rintro e w5 ⟨rfl, hb5⟩
  have hs5 := hb5.size
  have hB5 : Below w.heap.size w w5 := hB4.trans (hb5.mono hB4.size)
  have tw0 := hw0.below hb5; clear hw0; have hw0 := tw0; clear tw0
  have tg0 := hg0.below hb5; clear hg0; have hg0 := tg0; clear tg0
  go_wp2_with fail
  refine (impl_ParsePerm sText _ hlText).mono ?_
  rintro e w6 ⟨ah0, nh0, ch0, rfl, t, hb6⟩
  have hs6 := hb6.size
  have hB6 : Below w.heap.size w w6 := hB5.trans (hb6.mono hB5.size)
  have tw0 := hw0.below hb6; clear hw0; have hw0 := tw0; clear tw0
  have tg0 := hg0.below hb6; clear hg0; have hg0 := tg0; clear tg0
  have hh0 := t.ins; clear t
  have hlh0 : nh0 ≤ 1048576 := by have h1 := hh0.1.1; have h2 := length_prsP sText; omega
  go_wp2_with fail
  refine (eqIntS_same ah0 aw0 nh0 nw0 ch0 cw0  _ _ (hh0.sl (by omega)) (hw0.sl (by omega))).mono ?_
  rintro e w7 ⟨rfl, hb7⟩
  have hs7 := hb7.size
  have hB7 : Below w.heap.size w w7 := hB6.trans (hb7.mono hB6.size)
  have tw0 := hw0.below hb7; clear hw0; have hw0 := tw0; clear tw0
  have tg0 := hg0.below hb7; clear hg0; have hg0 := tg0; clear tg0
  have th0 := hh0.below hb7; clear hh0; have hh0 := th0; clear th0
  go_wp2_with fail
  refine (heldIntS_own ag0 ng0 cg0 _ _ (1) _ hg0 (by omega) (by omega) (by omega)).mono ?_
  rintro e w8 ⟨rfl, hb8⟩
  have hs8 := hb8.size
  have hB8 : Below w.heap.size w w8 := hB7.trans (hb8.mono hB7.size)
  have tw0 := hw0.below hb8; clear hw0; have hw0 := tw0; clear tw0
  have tg0 := hg0.below hb8; clear hg0; have hg0 := tg0; clear tg0
  have th0 := hh0.below hb8; clear hh0; have hh0 := th0; clear th0
  go_wp2
  go_ret
  exact ⟨rfl, hB8⟩
end Go.Proofs.Ytmojniiimondfaa
