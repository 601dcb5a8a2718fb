/- The draws of permutations. Condition: the code is at most 2^20 bytes. -/
import Derived.Test.YtjhlianledgiiaaD04
namespace Go.Proofs.Ytjhlianledgiiaa
open Go.RowKit

/-- A list given back by a draw. -/
def RetDI (w : World) (m : Nat) (e : Ending) (w' : World) : Prop := ∃ g n c xs, e = .returned (.slice (some ⟨g, 0, none⟩) n c) ∧ n ≤ m ∧ OwnI w' w.heap.size (some ⟨g, 0, none⟩) n c xs ∧ Below w.heap.size w w'
/-- Two lists given back by a draw. -/
def RetDII (w : World) (m : Nat) (e : Ending) (w' : World) : Prop := ∃ g n c xs g' n' c' ys, e = .returned (.tuple #[.slice (some ⟨g, 0, none⟩) n c, .slice (some ⟨g', 0, none⟩) n' c']) ∧ n ≤ m ∧ n' ≤ m ∧ OwnI w' w.heap.size (some ⟨g, 0, none⟩) n c xs ∧ OwnI w' w.heap.size (some ⟨g', 0, none⟩) n' c' ys ∧ Below w.heap.size w w'

set_option maxHeartbeats 400000 in
theorem drawInversePerm_any (a : Option Addr) (n c : Nat) (w : World) (hn : n ≤ 1048576) (h : Byts w w.heap.size a n) :
    Calls Try.prog 45 #[.slice a n c] w (RetDI w 9) := by
  have hC := l1New_any a n c w hn h
  go_enter Try.func45, Try.ntmps45
  go_wp2_with fail
  refine hC.mono ?_
  rintro e w1 ⟨cu, rfl, hcu, hc1, hb1⟩
  have hW := l2Bent_any cu w1 hc1
  clear hC
  go_wp2_with fail
  refine hW.mono ?_
  rintro e w2 ⟨g, m, d, xs, rfl, hm, ho, hc2, ho2⟩
  have hbe := draw_below hcu hb1 ho2
  go_wp2
  go_ret
  exact ⟨g, m, d, xs, rfl, hm, ho.mono hb1.size, hbe⟩

set_option maxHeartbeats 1000000 in
theorem l2Two_any (a : Option Addr) (n c : Nat) (w : World) (hn : n ≤ 1048576) (h : Byts w w.heap.size a n) :
    Calls Try.prog 100 #[.slice a n c] w (RetDII w 9) := by
  have hC := l1New_any a n c w hn h
  go_enter Try.func100, Try.ntmps100
  go_wp2_with fail
  refine hC.mono ?_
  rintro e w1 ⟨cu, rfl, hcu, hc1, hb1⟩
  have hW := l2Bent_any cu w1 hc1
  have hcl := hc1.lt
  clear hC
  go_wp2_with fail
  refine hW.mono ?_
  rintro e w2 ⟨g, m, d, xs, rfl, hm, ho, hc2, ho2⟩
  have hO := l1Once_any cu 8 w2 hc2 (by omega) (by omega)
  clear hW
  go_wp2_with fail
  refine hO.mono ?_
  rintro e w3 ⟨b, rfl, hc3, ho3⟩
  have hown3 := ho.outC ho3 hcl
  have hout3 := ho2.trans ho3
  clear hO ho
  cases b with
  | true =>
    have hW := l2Bent_any cu w3 hc3
    go_wp2_with fail
    refine hW.mono ?_
    rintro e w4 ⟨g', m', d', ys, rfl, hm', ho', hc4, ho4⟩
    have hown4 := hown3.outC ho4 hcl
    have hbe := draw_below hcu hb1 (hout3.trans ho4)
    clear hW hown3
    go_wp2
    go_ret2
    exact ⟨g, m, d, xs, g', m', d', ys, rfl, hm, hm', hown4.mono hb1.size, ho'.mono (Nat.le_trans hb1.size hout3.size), hbe⟩
  | false =>
    have hW := l2Draw_any cu (m : Int) w3 hc3 (by omega) (by omega)
    go_wp2_with fail
    refine hW.mono ?_
    rintro e w4 ⟨g', m', d', ys, rfl, hm', ho', hc4, ho4⟩
    have hown4 := hown3.outC ho4 hcl
    have hbe := draw_below hcu hb1 (hout3.trans ho4)
    clear hW hown3
    go_wp2
    go_ret2
    exact ⟨g, m, d, xs, g', m', d', ys, rfl, hm, by omega, hown4.mono hb1.size, ho'.mono (Nat.le_trans hb1.size hout3.size), hbe⟩

set_option maxHeartbeats 400000 in
theorem drawComposePerm_any (a : Option Addr) (n c : Nat) (w : World) (hn : n ≤ 1048576) (h : Byts w w.heap.size a n) :
    Calls Try.prog 48 #[.slice a n c] w (RetDII w 9) := by
  have hC := l2Two_any a n c w hn h
  go_enter Try.func48, Try.ntmps48
  go_wp2_with fail
  refine hC.mono ?_
  rintro e w1 ⟨g, m, d, xs, g', m', d', ys, rfl, hm, hm', ho, ho', hbe⟩
  clear hC
  go_wp2
  go_ret2
  exact ⟨g, m, d, xs, g', m', d', ys, rfl, hm, hm', ho, ho', hbe⟩

/-- An integer given back by a draw. -/
def RetDN (w : World) (lo hi : Int) (e : Ending) (w' : World) : Prop := ∃ x : Int, e = .returned (.int .i64 x) ∧ lo ≤ x ∧ x ≤ hi ∧ Below w.heap.size w w'
set_option maxHeartbeats 400000 in
theorem drawIdentityPerm_any (a : Option Addr) (n c : Nat) (w : World) (hn : n ≤ 1048576) (h : Byts w w.heap.size a n) :
    Calls Try.prog 57 #[.slice a n c] w (RetDN w (-1) 9) := by
  have hC := l1New_any a n c w hn h
  go_enter Try.func57, Try.ntmps57
  go_wp2_with fail
  refine hC.mono ?_
  rintro e w1 ⟨cu, rfl, hcu, hc1, hb1⟩
  have hW := l1Below_any cu 11 w1 hc1 (by omega) (by omega)
  rw [upB_pos (by omega)] at hW
  clear hC
  go_wp2_with fail
  refine hW.mono ?_
  rintro e w2 ⟨x, rfl, hx1, hx2, hc2, ho2⟩
  have hbe := draw_below hcu hb1 ho2
  go_wp2
  go_ret
  exact ⟨_, rfl, by omega, by omega, hbe⟩
set_option maxHeartbeats 400000 in
theorem drawPermsOf_any (a : Option Addr) (n c : Nat) (w : World) (hn : n ≤ 1048576) (h : Byts w w.heap.size a n) :
    Calls Try.prog 58 #[.slice a n c] w (RetDN w (-1) 7) := by
  have hC := l1New_any a n c w hn h
  go_enter Try.func58, Try.ntmps58
  go_wp2_with fail
  refine hC.mono ?_
  rintro e w1 ⟨cu, rfl, hcu, hc1, hb1⟩
  have hW := l1Below_any cu 9 w1 hc1 (by omega) (by omega)
  rw [upB_pos (by omega)] at hW
  clear hC
  go_wp2_with fail
  refine hW.mono ?_
  rintro e w2 ⟨x, rfl, hx1, hx2, hc2, ho2⟩
  have hbe := draw_below hcu hb1 ho2
  go_wp2
  go_ret
  exact ⟨_, rfl, by omega, by omega, hbe⟩

set_option maxHeartbeats 1000000 in
theorem drawPatternOf_any (a : Option Addr) (n c : Nat) (w : World) (hn : n ≤ 1048576) (h : Byts w w.heap.size a n) :
    Calls Try.prog 51 #[.slice a n c] w (RetDI w 8) := by
  have hC := l1New_any a n c w hn h
  go_enter Try.func51, Try.ntmps51
  go_wp2_with fail
  refine hC.mono ?_
  rintro e w1 ⟨cu, rfl, hcu, hc1, hb1⟩
  have hcl := hc1.lt
  have hba := below_alloc w1 (.cells #[] 3)
  have hW := l1Below_any cu 9 (w1.alloc (.cells #[] 3)) (hc1.below hba) (by omega) (by omega)
  rw [upB_pos (by omega)] at hW
  clear hC
  go_wp2_with fail
  refine hW.mono ?_
  rintro e w2 ⟨x, rfl, hx1, hx2, hc2, ho2⟩
  obtain ⟨m, rfl⟩ : ∃ m : Nat, x = m := ⟨x.toNat, by omega⟩
  have hm8 : m ≤ 8 := by omega
  have hown2 : OwnI w2 w1.heap.size (some ⟨w1.heap.size, 0, none⟩) 0 0 [] := (OwnI.lit0 w1).outC ho2 hcl
  have hout2 : Out cu (cu + 1) w1 w2 := (Below.out hba).trans ho2
  clear hW ho2
  go_wp2
  go_loopw [4, 6] (fun ov kv wr => ∃ (j g c : Nat) (xs : List Int), j ≤ m ∧ ov = .slice (some ⟨g, 0, none⟩) j c ∧ kv = .int .i64 (j : Int) ∧ Hid (OwnI wr w1.heap.size (some ⟨g, 0, none⟩) j c xs) ∧ Hid (Cur wr cu) ∧ Hid (Out cu (cu + 1) w1 wr)) (fun _ kv _ => m - (intOf kv).toNat)
  case atStart => exact ⟨0, w1.heap.size, 0, [], Nat.zero_le _, rfl, by go_num, hown2, hc2, hout2⟩
  case round =>
    obtain ⟨j, g, c1, xs, hj, rfl, rfl, HO, HC, HOut⟩ := hrel
    by_cases hlt : j < m
    · have hD := l1Below_any cu 60 wr HC.out (by omega) (by omega)
      rw [upB_pos (by omega)] at hD
      go_wp2_with fail
      refine hD.mono ?_
      rintro e w3 ⟨y, rfl, hy1, hy2, hc3, ho3⟩
      have hown3 := HO.out.outC ho3 hcl
      have hout3 := HOut.out.trans ho3
      have hsz3 : w1.heap.size ≤ w3.heap.size := hout3.size
      have HO3 := Lib.hid hown3
      have hgl := (hown3.lo _ rfl).1
      clear hD hown3 HO HOut ho3
      go_wp2_with (at_builtin; refine wpList_appIx rfl _ _ rfl w1.heap.size g j c1 _ rfl HO3.out _ _ rfl rfl (by omega) hsz3 ?_)
      intro g9 c9 w9 ho9 hg9 hf9
      have hb9 : Below w1.heap.size w3 w9 := grownBy_below hg9 hsz3 (fun k hk => by cases hk; exact hgl)
      have HO9 := Lib.hid ho9
      have HC9 := Lib.hid (hc3.belowAt hb9 hcl)
      have HT9 := Lib.hid (hout3.onBelow hb9)
      clear ho9 hg9 hf9 hb9
      go_wp2
      go_roundw
      case rel => exact ⟨j + 1, g9, c9, _, by omega, rfl, by go_num, HO9.out, HC9.out, HT9.out⟩
      case measure => simp [intOf]; omega
    · obtain rfl : j = m := by omega
      by_cases hj0 : 0 < j
      · have hjI : (0 : Int) < (j : Int) := by omega
        have hO := l1Once_any cu 12 wr HC.out (by omega) (by omega)
        have hown := HO.out
        have hout := HOut.out
        clear HO HOut
        go_wp2_with fail
        refine hO.mono ?_
        rintro e w3 ⟨b, rfl, hc3, ho3⟩
        have hown3 := hown.outC ho3 hcl
        have hout3 := hout.trans ho3
        clear hO hown hout ho3
        cases b with
        | true =>
          have hba3 := below_alloc w3 (.cells (([-9223372036854775808, 9223372036854775807] : List Int).map (.int .i64)).toArray 3)
          have hP := l1PickInt_any cu _ _ _ [-9223372036854775808, 9223372036854775807] _ (hc3.below hba3) (litI w3 [-9223372036854775808, 9223372036854775807] (by decide)) (by decide) (fun p hp => by obtain rfl := Option.some.inj hp; exact hc3.lt)
          have hown4 := hown3.below hba3
          have hout4 := hout3.onBelow (hba3.mono hout3.size)
          clear hown3 hout3
          go_wp2_with fail
          refine hP.mono ?_
          rintro e w5 ⟨y, rfl, hy, hc5, ho5⟩
          have hown5 := hown4.outC ho5 hcl
          have hout5 := hout4.trans ho5
          have hsz5 : w1.heap.size ≤ w5.heap.size := hout5.size
          have hf := hown5.frozen 0
          obtain ⟨z, hz, _⟩ := hown5.cell hj0
          have hgl := hown5.lo _ rfl
          simp only at hgl
          obtain ⟨_, h2, h3⟩ := hown5.set 0 y
          have hb9 : Below w1.heap.size w5 (w5.setCell ⟨g, 0, none⟩ (.int .i64 y)) := grownBy_below h3 hsz5 (fun k hk => by cases hk; exact hgl.1)
          have HO9 := Lib.hid (h2.mono hb1.size)
          have hbe := draw_below hcu hb1 (hout5.onBelow hb9)
          clear hP hown4 hown5 h2 h3 hout4 hout5 hb9 ho5
          go_wp2
          go_ret
          exact ⟨g, j, c1, _, rfl, hm8, HO9.out, hbe⟩
        | false =>
          have hbe := draw_below hcu hb1 hout3
          have HO9 := Lib.hid (hown3.mono hb1.size)
          clear hown3
          go_wp2
          go_ret
          exact ⟨g, j, c1, xs, rfl, hm8, HO9.out, hbe⟩
      · have hjI : ¬ (0 : Int) < (j : Int) := by omega
        have hbe := draw_below hcu hb1 HOut.out
        have HO9 := Lib.hid (HO.out.mono hb1.size)
        clear HO
        go_wp2
        go_ret
        exact ⟨g, j, c1, xs, rfl, hm8, HO9.out, hbe⟩
end Go.Proofs.Ytjhlianledgiiaa
