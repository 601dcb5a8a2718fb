/- The draws of integers and of texts. Condition: the code is at most 2^20 bytes. -/
import Derived.Test.YtmojniiimondfaaD01
import Derived.Test.YtmojniiimondfaaT01
import Derived.Test.YtmojniiimondfaaS01
namespace Go.Proofs.Ytmojniiimondfaa
open Go.RowKit

theorem litI (w : World) (vs : List Int) (h : vs.length ≤ 2097152) : SlI (w.alloc (.cells (vs.map (.int .i64)).toArray 3)) (some ⟨w.heap.size, 0, none⟩) vs.length vs.length vs := by
  refine ⟨fun i x hx => ⟨w.heap.size, 0, rfl, ?_⟩, rfl, h, Nat.le_refl _, fun e => by cases e⟩
  rw [World.cell?_alloc_at (hn := rfl), Nat.zero_add]
  simp [hx]
theorem litS (w : World) (vs : List ByteArray) (h : vs.length ≤ 2097152) : SlS (w.alloc (.cells (vs.map .string).toArray 9)) (some ⟨w.heap.size, 0, none⟩) vs.length vs.length vs := by
  refine ⟨fun i x hx => ⟨w.heap.size, 0, rfl, ?_⟩, rfl, h, Nat.le_refl _⟩
  rw [World.cell?_alloc_at (hn := rfl), Nat.zero_add]
  simp [hx]
theorem SlI.out {w w' : World} {a : Option Addr} {n c lo hi : Nat} {xs : List Int} (h : SlI w a n c xs) (ho : Out lo hi w w') (ha : ∀ p, a = some p → p.block < lo ∨ hi ≤ p.block) : SlI w' a n c xs := ⟨h.1.outAt ho (fun p hp _ => ha p hp), h.2⟩

set_option maxHeartbeats 400000 in
theorem l1PickInt_any (cu : Nat) (a : Option Addr) (n c : Nat) (xs : List Int) (w : World) (h : Cur w cu) (hs : SlI w a n c xs) (hn : 1 ≤ n) (ha : ∀ p, a = some p → cu + 1 ≤ p.block) :
    Calls Try.prog 124 #[.pointer (some ⟨cu, 0, none⟩), .slice a n c] w fun e w' => ∃ x : Int, e = .returned (.int .i64 x) ∧ x ∈ xs ∧ Cur w' cu ∧ Out cu (cu + 1) w w' := by
  have hnb := hs.2.2.1
  have HN : Hid (xs.length = n) := hs.2.1
  have hC := l1Below_any cu n w h (by omega) (by omega)
  rw [upB_pos (by omega)] at hC
  go_enter Try.func124, Try.ntmps124
  go_wp2_with fail
  refine hC.mono ?_
  rintro e w1 ⟨x, rfl, hx1, hx2, hc1, ho1⟩
  obtain ⟨k, rfl⟩ : ∃ k : Nat, x = k := ⟨x.toNat, by omega⟩
  have hk : k < n := by omega
  obtain ⟨ab, ao, v, rfl, hx, HX⟩ := (hs.out ho1 (fun p hp => .inr (ha p hp))).1.at (i := k) (by rw [HN.out]; exact hk)
  have hmem : v ∈ xs := List.mem_of_getElem? HX.out
  clear hC
  go_wp2
  go_ret
  exact ⟨v, rfl, hmem, hc1, ho1⟩
set_option maxHeartbeats 400000 in
theorem l1Pick_any (cu : Nat) (a : Option Addr) (n c : Nat) (ss : List ByteArray) (w : World) (h : Cur w cu) (hs : SlS w a n c ss) (hn : 1 ≤ n) (ha : ∀ p, a = some p → cu + 1 ≤ p.block) :
    Calls Try.prog 76 #[.pointer (some ⟨cu, 0, none⟩), .slice a n c] w fun e w' => ∃ s : ByteArray, e = .returned (.string s) ∧ s ∈ ss ∧ Cur w' cu ∧ Out cu (cu + 1) w w' := by
  have hnb := hs.2.2.1
  have HN : Hid (ss.length = n) := hs.2.1
  have hC := l1Below_any cu n w h (by omega) (by omega)
  rw [upB_pos (by omega)] at hC
  go_enter Try.func76, Try.ntmps76
  go_wp2_with fail
  refine hC.mono ?_
  rintro e w1 ⟨x, rfl, hx1, hx2, hc1, ho1⟩
  obtain ⟨k, rfl⟩ : ∃ k : Nat, x = k := ⟨x.toNat, by omega⟩
  have hk : k < n := by omega
  obtain ⟨ab, ao, v, rfl, hx, HX⟩ := (hs.1.out ho1 (fun p hp => .inr (ha p hp))).at (i := k) (by rw [HN.out]; exact hk)
  have hmem : v ∈ ss := List.mem_of_getElem? HX.out
  clear hC
  go_wp2
  go_ret
  exact ⟨v, rfl, hmem, hc1, ho1⟩

theorem Below.outC {w w' : World} {cu : Nat} (h : Below w.heap.size w w') : Out cu (cu + 1) w w' := Below.out h
/-- The ints that a whole number is picked from. -/
def whL : List Int := [0, 1, -1, 9, 10, 999999, 1000000, 999999999999, 1000000000000, -999999999999, 9223372036854775807, -9223372036854775808]
theorem wh_wf : ∀ x ∈ whL, (Lit.int .i64 x).wf = true := by decide
theorem wf_mid {n : Int} (h1 : -1000000000000000 ≤ n) (h2 : n ≤ 1000000000000000) : (Lit.int .i64 n).wf = true := by
  have e1 : IntKind.i64.min = -9223372036854775808 := by decide
  have e2 : IntKind.i64.max = 9223372036854775807 := by decide
  simp [Lit.wf]
  omega

/-- The code that came in. -/
theorem draw_below {w w1 w2 : World} {cu : Nat} (h1 : w.heap.size ≤ cu) (h2 : Below w.heap.size w w1) (h3 : Out cu (cu + 1) w1 w2) : Below w.heap.size w w2 :=
  h2.trans (h3.below h1 h2.size)

end Go.Proofs.Ytmojniiimondfaa
