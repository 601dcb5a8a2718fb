/- The draws of integers and of texts. Condition: the code is at most 2^20 bytes. -/
import Derived.Test.YtmojniiimondfaaDoorD01
import Derived.Test.YtmojniiimondfaaDoorT01
import Derived.Test.YtmojniiimondfaaDoorS01
namespace Go.Proofs.YtmojniiimondfaaDoor
open Go.RowKit

theorem litI (w : World) (vs : List Int) (h : vs.length ≤ 2097152) : SlI (w.alloc (.cells (vs.map (.int .i64)).toArray 3)) (some ⟨w.heap.size, 0, none⟩) vs.length vs.length vs := by
  refine ⟨fun i x hx => ⟨w.heap.size, 0, rfl, ?_⟩, rfl, h, Nat.le_refl _, fun e => by cases e⟩
  rw [World.cell?_alloc_at (hn := rfl), Nat.zero_add]
  simp [hx]
theorem litS (w : World) (vs : List ByteArray) (h : vs.length ≤ 2097152) : SlS (w.alloc (.cells (vs.map .string).toArray 9)) (some ⟨w.heap.size, 0, none⟩) vs.length vs.length vs := by
  refine ⟨fun i x hx => ⟨w.heap.size, 0, rfl, ?_⟩, rfl, h, Nat.le_refl _⟩
  rw [World.cell?_alloc_at (hn := rfl), Nat.zero_add]
  simp [hx]
theorem SlI.out {w w' : World} {a : Option Addr} {n c lo hi : Nat} {xs : List Int} (h : SlI w a n c xs) (ho : Out lo hi w w') (ha : ∀ p, a = some p → p.block < lo ∨ hi ≤ p.block) : SlI w' a n c xs := ⟨h.1.outAt ho (fun p hp _ => ha p hp), h.2⟩

set_option maxHeartbeats 400000 in
theorem l1PickInt_any (cu : Nat) (a : Option Addr) (n c : Nat) (xs : List Int) (w : World) (h : Cur w cu) (hs : SlI w a n c xs) (hn : 1 ≤ n) (ha : ∀ p, a = some p → cu + 1 ≤ p.block) :
    Calls Tryd.prog 30 #[.pointer (some ⟨cu, 0, none⟩), .slice a n c] w fun e w' => ∃ x : Int, e = .returned (.int .i64 x) ∧ x ∈ xs ∧ Cur w' cu ∧ Out cu (cu + 1) w w' := by
  have hnb := hs.2.2.1
  have HN : Hid (xs.length = n) := hs.2.1
  have hC := l1Below_any cu n w h (by omega) (by omega)
  rw [upB_pos (by omega)] at hC
  go_enter Tryd.func30, Tryd.ntmps30
  go_wp2_with fail
  refine hC.mono ?_
  rintro e w1 ⟨x, rfl, hx1, hx2, hc1, ho1⟩
  obtain ⟨k, rfl⟩ : ∃ k : Nat, x = k := ⟨x.toNat, by omega⟩
  have hk : k < n := by omega
  obtain ⟨ab, ao, v, rfl, hx, HX⟩ := (hs.out ho1 (fun p hp => .inr (ha p hp))).1.at (i := k) (by rw [HN.out]; exact hk)
  have hmem : v ∈ xs := List.mem_of_getElem? HX.out
  clear hC
  go_wp2
  go_ret
  exact ⟨v, rfl, hmem, hc1, ho1⟩
set_option maxHeartbeats 400000 in
theorem l1Pick_any (cu : Nat) (a : Option Addr) (n c : Nat) (ss : List ByteArray) (w : World) (h : Cur w cu) (hs : SlS w a n c ss) (hn : 1 ≤ n) (ha : ∀ p, a = some p → cu + 1 ≤ p.block) :
    Calls Tryd.prog 29 #[.pointer (some ⟨cu, 0, none⟩), .slice a n c] w fun e w' => ∃ s : ByteArray, e = .returned (.string s) ∧ s ∈ ss ∧ Cur w' cu ∧ Out cu (cu + 1) w w' := by
  have hnb := hs.2.2.1
  have HN : Hid (ss.length = n) := hs.2.1
  have hC := l1Below_any cu n w h (by omega) (by omega)
  rw [upB_pos (by omega)] at hC
  go_enter Tryd.func29, Tryd.ntmps29
  go_wp2_with fail
  refine hC.mono ?_
  rintro e w1 ⟨x, rfl, hx1, hx2, hc1, ho1⟩
  obtain ⟨k, rfl⟩ : ∃ k : Nat, x = k := ⟨x.toNat, by omega⟩
  have hk : k < n := by omega
  obtain ⟨ab, ao, v, rfl, hx, HX⟩ := (hs.1.out ho1 (fun p hp => .inr (ha p hp))).at (i := k) (by rw [HN.out]; exact hk)
  have hmem : v ∈ ss := List.mem_of_getElem? HX.out
  clear hC
  go_wp2
  go_ret
  exact ⟨v, rfl, hmem, hc1, ho1⟩

theorem Below.outC {w w' : World} {cu : Nat} (h : Below w.heap.size w w') : Out cu (cu + 1) w w' := Below.out h
/-- The ints that a whole number is picked from. -/
def whL : List Int := [0, 1, -1, 9, 10, 999999, 1000000, 999999999999, 1000000000000, -999999999999, 9223372036854775807, -9223372036854775808]
theorem wh_wf : ∀ x ∈ whL, (Lit.int .i64 x).wf = true := by decide
theorem wf_mid {n : Int} (h1 : -1000000000000000 ≤ n) (h2 : n ≤ 1000000000000000) : (Lit.int .i64 n).wf = true := by
  have e1 : IntKind.i64.min = -9223372036854775808 := by decide
  have e2 : IntKind.i64.max = 9223372036854775807 := by decide
  simp [Lit.wf]
  omega

set_option maxHeartbeats 1000000 in
theorem l1Whole_any (cu : Nat) (w : World) (h : Cur w cu) :
    Calls Tryd.prog 34 #[.pointer (some ⟨cu, 0, none⟩)] w fun e w' => ∃ x : Int, e = .returned (.int .i64 x) ∧ (Lit.int .i64 x).wf = true ∧ Cur w' cu ∧ Out cu (cu + 1) w w' := by
  have hC := l1Below_any cu 3 w h (by omega) (by omega)
  rw [upB_pos (by omega)] at hC
  go_enter Tryd.func34, Tryd.ntmps34
  go_wp2_with fail
  refine hC.mono ?_
  rintro e w1 ⟨x, rfl, hx1, hx2, hc1, ho1⟩
  clear hC
  have hx : x = 0 ∨ x = 1 ∨ x = 2 := by omega
  rcases hx with rfl | rfl | rfl
  · have hba := below_alloc w1 (.cells (whL.map (.int .i64)).toArray 3)
    have hlt := hc1.lt
    have hP := l1PickInt_any cu _ _ _ whL _ (hc1.below hba) (litI w1 whL (by decide)) (by decide) (fun p hp => by obtain rfl := Option.some.inj hp; exact hlt)
    go_wp2_with fail
    refine hP.mono ?_
    rintro e w2 ⟨y, rfl, hy, hc2, ho2⟩
    have hwf := wh_wf y hy
    go_wp2
    go_ret
    exact ⟨y, rfl, hwf, hc2, (ho1.trans (Below.out hba)).trans ho2⟩
  · have hC := l1Below_any cu 1000000 w1 hc1 (by omega) (by omega)
    rw [upB_pos (by omega)] at hC
    go_wp2_with fail
    refine hC.mono ?_
    rintro e w2 ⟨y, rfl, hy1, hy2, hc2, ho2⟩
    have hwf : (Lit.int .i64 (y - 500000)).wf = true := wf_mid (by omega) (by omega)
    have hwf' : (Lit.int .i64 (y + -500000)).wf = true := wf_mid (by omega) (by omega)
    go_wp2
    go_ret
    exact ⟨_, rfl, by first | exact hwf | exact hwf', hc2, ho1.trans ho2⟩
  · have hC := l1Below_any cu 20 w1 hc1 (by omega) (by omega)
    rw [upB_pos (by omega)] at hC
    go_wp2_with fail
    refine hC.mono ?_
    rintro e w2 ⟨y, rfl, hy1, hy2, hc2, ho2⟩
    have hwf : (Lit.int .i64 y).wf = true := wf_mid (by omega) (by omega)
    go_wp2
    go_ret
    exact ⟨_, rfl, hwf, hc2, ho1.trans ho2⟩

/-- The code that came in. -/
theorem draw_below {w w1 w2 : World} {cu : Nat} (h1 : w.heap.size ≤ cu) (h2 : Below w.heap.size w w1) (h3 : Out cu (cu + 1) w1 w2) : Below w.heap.size w w2 :=
  h2.trans (h3.below h1 h2.size)

set_option maxHeartbeats 400000 in
theorem drawFormatInt_any (a : Option Addr) (n c : Nat) (w : World) (hn : n ≤ 1048576) (h : Byts w w.heap.size a n) :
    Calls Tryd.prog 23 #[.slice a n c] w fun e w' => ∃ x : Int, e = .returned (.int .i64 x) ∧ (Lit.int .i64 x).wf = true ∧ Below w.heap.size w w' := by
  have hC := l1New_any a n c w hn h
  go_enter Tryd.func23, Tryd.ntmps23
  go_wp2_with fail
  refine hC.mono ?_
  rintro e w1 ⟨cu, rfl, hcu, hc1, hb1⟩
  have hW := l1Whole_any cu w1 hc1
  clear hC
  go_wp2_with fail
  refine hW.mono ?_
  rintro e w2 ⟨x, rfl, hx, hc2, ho2⟩
  have hbe := draw_below hcu hb1 ho2
  go_wp2
  go_ret
  exact ⟨x, rfl, hx, hbe⟩
end Go.Proofs.YtmojniiimondfaaDoor
