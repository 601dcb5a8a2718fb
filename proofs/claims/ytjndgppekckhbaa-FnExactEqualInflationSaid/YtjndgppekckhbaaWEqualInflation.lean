/- The walk of the law FnExactEqualInflation: it returns true, and writes to nothing that was there. No condition. -/
import Derived.Test.YtjndgppekckhbaaF48
import Derived.Deep.RegionLaw
namespace Go.Proofs.Ytjndgppekckhbaa
open Go.RowKit

theorem InInf.below {w w' : World} {a : Option Addr} {n c : Nat} {xs : List Int} {b : Option Addr} {m d : Nat} {xss : List (List Int)} (h : InInf w a n c xs b m d xss) (hb : Below w.heap.size w w') : InInf w' a n c xs b m d xss :=
  ⟨⟨h.1.1.below hb, h.1.2⟩, fun i xs hx => by
    obtain ⟨b', o, r, e1, e2, e3⟩ := h.2.1 i xs hx
    exact ⟨b', o, r, e1, (hb.cell (p := ⟨b', o + i, none⟩) (World.block_lt_of_cell? w _ e2)).trans e2, e3.1.below hb, e3.2⟩, h.2.2⟩
theorem InInf.sl {w : World} {a : Option Addr} {n c : Nat} {xs : List Int} {b : Option Addr} {m d : Nat} {xss : List (List Int)} (h : InInf w a n c xs b m d xss) (hn : n + (m + totL xss) ≤ 1048576) : SlI w a n c xs ∧ IIs w b m d xss ∧ totL xss ≤ 2097152 :=
  ⟨⟨h.1.1, h.1.2.1, by omega, h.1.2.2.1, h.1.2.2.2.2⟩, h.2.iis (by omega), by omega⟩

set_option maxHeartbeats 1000000 in
set_option maxRecDepth 100000 in
theorem FnExactEqualInflation_walk (aA : Option Addr) (nA cA : Nat) (xA : List Int) (bA : Option Addr) (mA dA : Nat) (xxA : List (List Int)) (aB : Option Addr) (nB cB : Nat) (xB : List Int) (bB : Option Addr) (mB dB : Nat) (xxB : List (List Int)) {w : World}
    (hA : InInf w aA nA cA xA bA mA dA xxA) (hB : InInf w aB nB cB xB bB mB dB xxB) :
    Calls Try.prog 7 #[infV aA nA cA bA mA dA, infV aB nB cB bB mB dB] w fun e w' => e = .returned (.bool true) ∧ Below w.heap.size w w' := by
  have hbx := below_alloc w (.cells #[.slice aA nA cA, .slice bA mA dA] 31)
  have hby := hbx.alloc hbx.size (.cells #[.slice aB nB cB, .slice bB mB dB] 31)
  have x1 := (Bx.new w (.slice aA nA cA) (.slice bA mA dA) 31).below (below_alloc _ (.cells #[.slice aB nB cB, .slice bB mB dB] 31))
  have x2 := Bx.new (w.alloc (.cells #[.slice aA nA cA, .slice bA mA dA] 31)) (.slice aB nB cB) (.slice bB mB dB) 31
  simp only [World.size_alloc] at x2
  have hA0 := hA.below hby
  have hB0 := hB.below hby
  have C1 := Lib.hid (szInflation_any aA nA cA xA bA mA dA xxA 1048576 _ hA0 (by omega) (by omega))
  have HA := Lib.hid hA0
  have HB := Lib.hid hB0
  have X1 := Lib.hid x1
  have X2 := Lib.hid x2
  clear hA hB hA0 hB0 x1 x2 hbx
  unfold infV
  go_enter Try.func7, Try.ntmps7
  go_wp2_with fail
  refine C1.out.mono ?_
  rintro e w1 ⟨z1, rfl, hb1, hz1, hz2, hz3⟩
  have HA1 := Lib.hid (HA.out.below hb1)
  have HB1 := Lib.hid (HB.out.below hb1)
  have X11 := Lib.hid (X1.out.below hb1)
  have X21 := Lib.hid (X2.out.below hb1)
  have hw1 : Below w.heap.size w w1 := hby.trans (hb1.mono hby.size)
  have HZ1 := Lib.hid hz3
  clear hby C1 HA HB X1 X2 hb1 hz3
  obtain ⟨p1, p2, _⟩ := X11.out
  obtain ⟨q1, q2, _⟩ := X21.out
  by_cases hneg1 : z1 < 0
  · go_wp2
    go_ret
    exact ⟨rfl, hw1⟩
  go_wp2_with fail
  refine (szInflation_any aB nB cB xB bB mB dB xxB z1 w1 HB1.out (by omega) hz2).mono ?_
  rintro e w2 ⟨z2, rfl, hb2, hz21, hz22, hz23⟩
  have hw2 : Below w.heap.size w w2 := hw1.trans (hb2.mono hw1.size)
  have HA2 := Lib.hid (HA1.out.below hb2)
  have HB2 := Lib.hid (HB1.out.below hb2)
  have X12 := Lib.hid (X11.out.below hb2)
  have X22 := Lib.hid (X21.out.below hb2)
  have HZ2 := Lib.hid hz23
  clear HA1 HB1 X11 X21 hb2 hz23 p1 p2 q1 q2 hw1
  obtain ⟨p1, p2, _⟩ := X12.out
  obtain ⟨q1, q2, _⟩ := X22.out
  by_cases hneg2 : z2 < 0
  · go_wp2
    go_ret
    exact ⟨rfl, hw2⟩
  have HSA := Lib.hid (HA2.out.sl (by have h1 := HZ1.out; have h2 := HZ2.out; omega))
  have HSB := Lib.hid (HB2.out.sl (by have h1 := HZ1.out; have h2 := HZ2.out; omega))
  clear HA2 HB2 HZ1 HZ2
  have HTA : Hid (∀ W, Below w2.heap.size w2 W → Calls Try.prog 29 #[.agg #[.slice aA nA cA, .slice bA mA dA]] W (RetF W xA xxA)) := fun W hb => toInflation_any _ _ _ _ _ _ _ _ W (HSA.out.1.below hb) (HSA.out.2.1.below hb) HSA.out.2.2
  have HTB : Hid (∀ W, Below w2.heap.size w2 W → Calls Try.prog 29 #[.agg #[.slice aB nB cB, .slice bB mB dB]] W (RetF W xB xxB)) := fun W hb => toInflation_any _ _ _ _ _ _ _ _ W (HSB.out.1.below hb) (HSB.out.2.1.below hb) HSB.out.2.2
  obtain ⟨v, hv⟩ : ∃ v, v = (decide (xA = xB) && decide (xxA = xxB)) := ⟨_, rfl⟩
  have HSE : Hid (∀ (a : Option Addr) (n c : Nat) (b : Option Addr) (m d : Nat) (a' : Option Addr) (n' c' : Nat) (b' : Option Addr) (m' d' : Nat) (W : World), SlI W a n c xA → IIs W b m d xxA → SlI W a' n' c' xB → IIs W b' m' d' xxB →
      Calls Try.prog 28 #[.agg #[.slice a n c, .slice b m d], .agg #[.slice a' n' c', .slice b' m' d']] W (RetV W (.bool v))) := fun a n c b m d a' n' c' b' m' d' W h1 h2 h3 h4 => by rw [hv]; exact spec_EqualInflation a n c xA b m d xxA a' n' c' xB b' m' d' xxB W h1 h2 h3 h4
  have HIE : Hid (∀ (a : Option Addr) (n c : Nat) (b : Option Addr) (m d : Nat) (a' : Option Addr) (n' c' : Nat) (b' : Option Addr) (m' d' : Nat) (W : World), SlI W a n c xA → IIs W b m d xxA → SlI W a' n' c' xB → IIs W b' m' d' xxB →
      Calls Try.prog 30 #[.agg #[.slice a n c, .slice b m d], .agg #[.slice a' n' c', .slice b' m' d']] W (RetV W (.bool v))) := fun a n c b m d a' n' c' b' m' d' W h1 h2 h3 h4 => by rw [hv]; exact impl_EqualInflation a n c xA b m d xxA a' n' c' xB b' m' d' xxB W h1 h2 h3 h4
  clear hv
  go_wp2_with fail
  go_region_law ((first
    | (go_simp; go_at_call 29; refine (HTB.out _ hw3).mono ?_; rintro e w4 ⟨a4, n4, c4, b4, m4, d4, rfl, s4, t4, hb4⟩; have s3' := s3.below hb4; have t3' := t3.below hb4)
    | (go_simp; go_at_call 29; refine (HTA.out _ (Below.refl _ _).drew).mono ?_; rintro e w3 ⟨a3, n3, c3, b3, m3, d3, rfl, s3, t3, hb3⟩; have hw3 : Below w2.heap.size w2 w3 := (Below.refl _ w2).drew.trans hb3; have X13 := Lib.hid (X12.out.below hw3); have X23 := Lib.hid (X22.out.below hw3); obtain ⟨u1, u2, _⟩ := X23.out)
    | (go_simp; go_at_call 28; refine (HSE.out _ _ _ _ _ _ _ _ _ _ _ _ _ s3' t3' s4 t4).mono ?_; rintro e w5 ⟨rfl, hb5⟩)))
  all_goals
    have hw4 : Below w2.heap.size w2 w4 := hw3.trans (hb4.mono hw3.size)
    have hw5 : Below w2.heap.size w2 w5 := hw4.trans (hb5.mono hw4.size)
    have X14 := Lib.hid ((X13.out.below hb4).below hb5)
    have X24 := Lib.hid ((X23.out.below hb4).below hb5)
    clear s3 t3 s4 t4 s3' t3' X13 X23 hb3 hb4 hb5 hw3 hw4 u1 u2 p1 p2 q1 q2
    obtain ⟨p1, p2, _⟩ := X14.out
    obtain ⟨q1, q2, _⟩ := X24.out
    go_wp2_with fail
    refine (HTA.out _ hw5).mono ?_
    rintro e w6 ⟨a6, n6, c6, b6, m6, d6, rfl, s6, t6, hb6⟩
    have X15 := X14.out.below hb6
    have X25 := X24.out.below hb6
    have hw6 : Below w2.heap.size w2 w6 := hw5.trans (hb6.mono hw5.size)
    clear X14 X24 p1 p2 q1 q2 hb6 hw5
    have y1 := Bx.new w6 (.slice a6 n6 c6) (.slice b6 m6 d6) 34
    have hy := below_alloc w6 (.cells #[.slice a6 n6 c6, .slice b6 m6 d6] 34)
    obtain ⟨q1, q2, hq3⟩ := X25
    have hw6' : Below w2.heap.size w2 (w6.alloc (.cells #[.slice a6 n6 c6, .slice b6 m6 d6] 34)) := hw6.alloc hw6.size _
    have X16 := Lib.hid (X15.below hy)
    have X26 := Lib.hid ((show Bx w6 _ _ _ from ⟨q1, q2, hq3⟩).below hy)
    have Y1 := Lib.hid y1
    have s6' := s6.below hy
    have t6' := t6.below hy
    clear y1 s6 t6 X15
    go_wp2_with fail
    refine (HTB.out _ hw6').mono ?_
    rintro e w7 ⟨a7, n7, c7, b7, m7, d7, rfl, s7, t7, hb7⟩
    have hy2 := below_alloc w7 (.cells #[.slice a7 n7 c7, .slice b7 m7 d7] 34)
    have X17 := Lib.hid ((X16.out.below hb7).below hy2)
    have X27 := Lib.hid ((X26.out.below hb7).below hy2)
    have Y2 := Y1.out.below hb7
    have Y2' := Lib.hid (Y2.below hy2)
    have Z1 := Lib.hid (Bx.new w7 (.slice a7 n7 c7) (.slice b7 m7 d7) 34)
    have s6'' := (s6'.below hb7).below hy2
    have t6'' := (t6'.below hb7).below hy2
    have s7' := s7.below hy2
    have t7' := t7.below hy2
    have hw7 : Below w2.heap.size w2 w7 := hw6'.trans (hb7.mono hw6'.size)
    have hw7' : Below w2.heap.size w2 (w7.alloc (.cells #[.slice a7 n7 c7, .slice b7 m7 d7] 34)) := hw7.alloc hw7.size _
    obtain ⟨y1, y2, hy3⟩ := Y2
    clear X16 X26 Y1 s6' t6' s7 t7 hb7 hw6 hw6' hw7 q1 q2 hq3 hy
    go_wp2_with fail
    refine (HIE.out _ _ _ _ _ _ _ _ _ _ _ _ _ s6'' t6'' s7' t7').mono ?_
    rintro e w8 ⟨rfl, hb8⟩
    have hw8 : Below w2.heap.size w2 w8 := hw7'.trans (hb8.mono hw7'.size)
    have X18 := Lib.hid (X17.out.below hb8)
    have X28 := Lib.hid (X27.out.below hb8)
    have Y8 := Lib.hid (Y2'.out.below hb8)
    have Z8 := Lib.hid (Z1.out.below hb8)
    have S6 := Lib.hid (s6''.below hb8)
    have T6 := Lib.hid (t6''.below hb8)
    have S7 := Lib.hid (s7'.below hb8)
    have T7 := Lib.hid (t7'.below hb8)
    clear X17 X27 Y2' Z1 s6'' t6'' s7' t7' hb8 hw7' y1 y2 hy3 hy2
    obtain ⟨p1, p2, _⟩ := X18.out
    obtain ⟨y1, y2, _⟩ := Y8.out
    go_wp2_with fail
    go_region_law ((first
      | (go_simp; go_at_call 29; refine (HTA.out _ hw8.drew).mono ?_; rintro e w9 ⟨a9, n9, c9, b9, m9, d9, rfl, s9, t9, hb9'⟩; have hb9 : Below w8.heap.size w8 w9 := (Below.refl _ w8).drew.trans hb9'; have Y9 := Y8.out.below hb9; obtain ⟨v1, v2, hv3⟩ := Y9; have S9 := S6.out.below hb9; have T9 := T6.out.below hb9)
      | (go_simp; go_at_call 31; refine (eqInflation_same _ _ _ _ _ _ _ _ _ _ _ _ _ _ _ S9 T9 s9 t9).mono ?_; rintro e w10 ⟨rfl, hb10⟩)))
    all_goals
      have hw9 : Below w2.heap.size w2 w9 := hw8.trans (hb9.mono hw8.size)
      have hw10 : Below w2.heap.size w2 w10 := hw9.trans (hb10.mono hw9.size)
      have X20 := Lib.hid ((X28.out.below hb9).below hb10)
      have Z20 := Lib.hid ((Z8.out.below hb9).below hb10)
      have S20 := Lib.hid ((S7.out.below hb9).below hb10)
      have T20 := Lib.hid ((T7.out.below hb9).below hb10)
      clear S9 T9 s9 t9 v1 v2 hv3 hb9 hb9' hb10 hw9 p1 p2 y1 y2 hw8
      obtain ⟨q1, q2, _⟩ := X20.out
      obtain ⟨z1', z2', _⟩ := Z20.out
      go_wp2_with fail
      go_region_law ((first
        | (go_simp; go_at_call 29; refine (HTB.out _ hw10.drew).mono ?_; rintro e w11 ⟨a11, n11, c11, b11, m11, d11, rfl, s11, t11, hb11'⟩; have hb11 : Below w10.heap.size w10 w11 := (Below.refl _ w10).drew.trans hb11'; have Z11 := Z20.out.below hb11; obtain ⟨v1, v2, hv3⟩ := Z11; have S11 := S20.out.below hb11; have T11 := T20.out.below hb11)
        | (go_simp; go_at_call 31; refine (eqInflation_same _ _ _ _ _ _ _ _ _ _ _ _ _ _ _ S11 T11 s11 t11).mono ?_; rintro e w12 ⟨rfl, hb12⟩)))
      all_goals
        have hw12 : Below w2.heap.size w2 w12 := (hw10.trans (hb11.mono hw10.size)).trans (hb12.mono (Nat.le_trans hw10.size hb11.size))
        clear S11 T11 s11 t11 v1 v2 hv3 hb11 hb11' hb12 q1 q2 z1' z2' hw10
        go_wp2
        go_ret
        exact ⟨rfl, hw2.trans (hw12.mono hw2.size)⟩
end Go.Proofs.Ytjndgppekckhbaa
