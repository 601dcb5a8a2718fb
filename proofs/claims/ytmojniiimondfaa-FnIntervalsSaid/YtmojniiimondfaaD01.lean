/- The draws of the laws: the cursor over the code, a byte, a number below a bound. Condition: the code is at most 2^20 bytes. -/
import Derived.Test.YtmojniiimondfaaLib
import Derived.Laws.Bits128
namespace Go.Proofs.Ytmojniiimondfaa
open Go.RowKit

theorem and255 (n : Int) : bits .and .i64 n 255 = n % 256 := by
  have h127 : (BitVec.ofInt 64 255).toNat = 2 ^ 8 - 1 := by decide
  have key : (BitVec.ofInt 64 n &&& BitVec.ofInt 64 255).toNat = (n % ((2 ^ 64 : Nat) : Int)).toNat % 2 ^ 8 := by
    rw [BitVec.toNat_and, BitVec.toNat_ofInt, h127, Nat.and_two_pow_sub_one_eq_mod]
  show IntKind.i64.wrap ((BitVec.ofInt 64 n &&& BitVec.ofInt 64 255).toNat : Nat) = n % 256
  rw [key, IntKind.wrap_i64]
  omega
theorem and30 (n : Int) : bits .and .i64 n 1073741823 = n % 1073741824 := by
  have h127 : (BitVec.ofInt 64 1073741823).toNat = 2 ^ 30 - 1 := by decide
  have key : (BitVec.ofInt 64 n &&& BitVec.ofInt 64 1073741823).toNat = (n % ((2 ^ 64 : Nat) : Int)).toNat % 2 ^ 30 := by
    rw [BitVec.toNat_and, BitVec.toNat_ofInt, h127, Nat.and_two_pow_sub_one_eq_mod]
  show IntKind.i64.wrap ((BitVec.ofInt 64 n &&& BitVec.ofInt 64 1073741823).toNat : Nat) = n % 1073741824
  rw [key, IntKind.wrap_i64]
  omega

/-- A slice of bytes that can be read, in a block below hi. -/
def Byts (w : World) (hi : Nat) (a : Option Addr) (n : Nat) : Prop := ∀ i, i < n → ∃ b o z, a = some ⟨b, o, none⟩ ∧ b < hi ∧ w.cell? ⟨b, o + i, none⟩ = some (.int .u8 z) ∧ 0 ≤ z ∧ z ≤ 255
theorem Byts.below {w w' : World} {hi n : Nat} {a : Option Addr} (h : Byts w hi a n) (hb : Below w.heap.size w w') : Byts w' hi a n := by
  intro i hi'
  obtain ⟨b, o, z, h1, h2, h3, h4⟩ := h i hi'
  exact ⟨b, o, z, h1, h2, (hb.cell (p := ⟨b, o + i, none⟩) (World.block_lt_of_cell? w _ h3)).trans h3, h4⟩
theorem Byts.out {w w' : World} {hi n lo up : Nat} {a : Option Addr} (h : Byts w hi a n) (ho : Out lo up w w') (hd : hi ≤ lo) : Byts w' hi a n := by
  intro i hi'
  obtain ⟨b, o, z, h1, h2, h3, h4⟩ := h i hi'
  exact ⟨b, o, z, h1, h2, (World.cell?_of_block (w := w) (ho.block b (World.block_lt_of_cell? w ⟨b, o + i, none⟩ h3) (.inl (by omega)))).trans h3, h4⟩
theorem Byts.mono {w : World} {hi hi' n : Nat} {a : Option Addr} (h : Byts w hi a n) (hh : hi ≤ hi') : Byts w hi' a n := by
  intro i hi'
  obtain ⟨b, o, z, h1, h2, h3⟩ := h i hi'
  exact ⟨b, o, z, h1, by omega, h3⟩

/-- The cursor lies in block cu. -/
def Cur (w : World) (cu : Nat) : Prop := ∃ (a : Option Addr) (n c : Nat) (i : Nat) (h : Int), n ≤ 1048576 ∧ i ≤ n ∧ Byts w cu a n ∧ cu < w.heap.size ∧
  w.cell? ⟨cu, 0, none⟩ = some (.slice a n c) ∧ w.cell? ⟨cu, 1, none⟩ = some (.int .i64 i) ∧ w.cell? ⟨cu, 2, none⟩ = some (.int .i64 h) ∧
  w.frozen? ⟨cu, 1, none⟩ = false ∧ w.frozen? ⟨cu, 2, none⟩ = false
theorem Cur.below {w w' : World} {cu : Nat} (h : Cur w cu) (hb : Below w.heap.size w w') : Cur w' cu := by
  obtain ⟨a, n, c, i, h0, h1, h2, h3, h4, h5, h6, h7, h8, h9⟩ := h
  exact ⟨a, n, c, i, h0, h1, h2, h3.below hb, Nat.lt_of_lt_of_le h4 hb.size, (hb.cell (p := ⟨cu, 0, none⟩) h4).trans h5, (hb.cell (p := ⟨cu, 1, none⟩) h4).trans h6, (hb.cell (p := ⟨cu, 2, none⟩) h4).trans h7, (hb.frozen (p := ⟨cu, 1, none⟩) h4).trans h8, (hb.frozen (p := ⟨cu, 2, none⟩) h4).trans h9⟩
theorem frozen_of_block {w w' : World} {p : Addr} (h : w'.heap[p.block]? = w.heap[p.block]?) : w'.frozen? p = w.frozen? p := by
  unfold World.frozen?; rw [h]
theorem Cur.out {w w' : World} {cu lo up : Nat} (h : Cur w cu) (ho : Out lo up w w') (hd : cu < lo) : Cur w' cu := by
  obtain ⟨a, n, c, i, h0, h1, h2, h3, h4, h5, h6, h7, h8, h9⟩ := h
  have hbk := ho.block cu h4 (.inl hd)
  exact ⟨a, n, c, i, h0, h1, h2, h3.out ho (by omega), Nat.lt_of_lt_of_le h4 ho.size, (World.cell?_of_block (w := w) (a := ⟨cu, 0, none⟩) hbk).trans h5, (World.cell?_of_block (w := w) (a := ⟨cu, 1, none⟩) hbk).trans h6, (World.cell?_of_block (w := w) (a := ⟨cu, 2, none⟩) hbk).trans h7, (frozen_of_block (p := ⟨cu, 1, none⟩) hbk).trans h8, (frozen_of_block (p := ⟨cu, 2, none⟩) hbk).trans h9⟩
theorem Cur.lt {w : World} {cu : Nat} (h : Cur w cu) : cu < w.heap.size := by
  obtain ⟨a, n, c, i, h0, h1, h2, h3, h4, _⟩ := h; exact h4
/-- A number drawn: from 0 to g; only the cursor has been written. -/
def RetD (w : World) (cu : Nat) (g : Int) (e : Ending) (w' : World) : Prop := ∃ x : Int, e = .returned (.int .i64 x) ∧ 0 ≤ x ∧ x ≤ g ∧ Cur w' cu ∧ Out cu (cu + 1) w w'
theorem outCell {w : World} {cu k : Nat} (v : Value) : Out cu (cu + 1) w (w.setCell ⟨cu, k, none⟩ v) :=
  ⟨rfl, rfl, rfl, by simp, fun j _ hr => Below.heap_setCell w ⟨cu, k, none⟩ v j (by simp; omega)⟩
theorem Out.drew {w w' : World} {lo hi : Nat} (h : Out lo hi w w') (q : Nat) : Out lo hi w (w'.drewN q) := ⟨h.os, h.tape, h.output, h.size, h.block⟩
theorem Out.drew1 {w w' : World} {lo hi : Nat} (h : Out lo hi w w') : Out lo hi w w'.drew := ⟨h.os, h.tape, h.output, h.size, h.block⟩

set_option maxHeartbeats 1000000 in
theorem l1Byte_any (cu : Nat) (w : World) (h : Cur w cu) :
    Calls Try.prog 109 #[.pointer (some ⟨cu, 0, none⟩)] w (RetD w cu 255) := by
  obtain ⟨a, n, c, i, h0, h1, h2, h3, h4, h5, h6, h7, h8, h9⟩ := h
  go_enter Try.func109, Try.ntmps109
  go_wp2
  generalize wrap64 (wrap64 (h0 * 6364136223846793005) + 1442695040888963407) = v
  have k5 : (w.setCell ⟨cu, 2, none⟩ (.int .i64 v)).cell? ⟨cu, 0, none⟩ = some (.slice a n c) := (World.cell?_setCell_other _ _ _ _ (by simp)).trans h5
  have k6 : (w.setCell ⟨cu, 2, none⟩ (.int .i64 v)).cell? ⟨cu, 1, none⟩ = some (.int .i64 i) := (World.cell?_setCell_other _ _ _ _ (by simp)).trans h6
  have k7 : (w.setCell ⟨cu, 2, none⟩ (.int .i64 v)).cell? ⟨cu, 2, none⟩ = some (.int .i64 v) := World.cell?_setCell_same _ _ _ h7
  have k8 : (w.setCell ⟨cu, 2, none⟩ (.int .i64 v)).frozen? ⟨cu, 1, none⟩ = false := by rw [World.frozen?_setCell]; exact h8
  have k9 : (w.setCell ⟨cu, 2, none⟩ (.int .i64 v)).frozen? ⟨cu, 2, none⟩ = false := by rw [World.frozen?_setCell]; exact h9
  have kO := outCell (w := w) (cu := cu) (k := 2) (.int .i64 v)
  have k3 := h3.out kO (Nat.le_refl _)
  have k4 := Nat.lt_of_lt_of_le h4 kO.size
  generalize w.setCell ⟨cu, 2, none⟩ (.int .i64 v) = w1 at k3 k4 k5 k6 k7 k8 k9 kO ⊢
  clear h3 h4 h5 h6 h7 h8 h9
  go_quiet (fail)
  have hx := and255 (bits .xor .i64 (v / 8589934592) (v / 35184372088832))
  generalize bits .xor .i64 (v / 8589934592) (v / 35184372088832) = m at hx ⊢
  generalize bits .and .i64 m 255 = x at hx ⊢
  have hx1 : 0 ≤ x := by omega
  have hx2 : x ≤ 255 := by omega
  clear hx
  by_cases hlt : i < n
  · obtain ⟨b, o, z, rfl, hbc, hz, hz1, hz2⟩ := k3 i hlt
    have hltI : (i : Int) < (n : Int) := by omega
    go_wp2
    go_quiet (fail)
    go_wp2
    go_quiet (fail)
    have hy := and255 (x + z)
    generalize bits .and .i64 (x + z) 255 = y at hy ⊢
    have hy1 : 0 ≤ y := by omega
    have hy2 : y ≤ 255 := by omega
    have kC : Cur (w1.setCell ⟨cu, 1, none⟩ (.int .i64 ((i : Int) + 1))) cu :=
      ⟨some ⟨b, o, none⟩, n, c, i + 1, v, h1, by omega, k3.out (outCell _) (Nat.le_refl _), Nat.lt_of_lt_of_le k4 (outCell (cu := cu) (k := 1) _).size,
        (World.cell?_setCell_other _ _ _ _ (by simp)).trans k5, World.cell?_setCell_same _ _ _ k6, (World.cell?_setCell_other _ _ _ _ (by simp)).trans k7,
        by rw [World.frozen?_setCell]; exact k8, by rw [World.frozen?_setCell]; exact k9⟩
    have KC := Lib.hid kC
    clear hx1 hx2 hy hz hz1 hz2 kC
    go_wp2
    go_ret
    exact ⟨y, rfl, hy1, hy2, KC.out, (kO.drew _).trans (outCell _)⟩
  · have hltI : ¬ ((i : Int) < (n : Int)) := by omega
    go_wp2
    go_quiet (fail)
    go_wp2
    go_ret
    exact ⟨x, rfl, hx1, hx2, ⟨a, n, c, i, v, h1, h2, k3, k4, k5, k6, k7, k8, k9⟩, (kO.drew _).drew _⟩

/-- A number below n, or 0. -/
def upB (n : Int) : Int := if n ≤ 0 then 0 else n - 1
theorem upB_pos {n : Int} (h : 0 < n) : upB n = n - 1 := by unfold upB; rw [if_neg (by omega)]
theorem upB_neg {n : Int} (h : n ≤ 0) : upB n = 0 := if_pos h
theorem tmod_bd {x n : Int} (hx : 0 ≤ x) (hn : 0 < n) : 0 ≤ x % n ∧ x % n ≤ n - 1 := by
  have h1 := Int.emod_nonneg x (show n ≠ 0 by omega)
  have h2 := Int.emod_lt_of_pos x hn
  omega

set_option maxHeartbeats 1000000 in
theorem l1Below_any (cu : Nat) (n : Int) (w : World) (h : Cur w cu) (hn : n ≤ 2097152) (hn0 : -2097152 ≤ n) :
    Calls Try.prog 67 #[.pointer (some ⟨cu, 0, none⟩), .int .i64 n] w (RetD w cu (upB n)) := by
  by_cases h0 : n ≤ 0
  · rw [upB_neg h0]
    go_enter Try.func67, Try.ntmps67
    go_wp2
    go_ret
    exact ⟨0, rfl, by omega, by omega, h, Out.refl _ _ _⟩
  · rw [upB_pos (by omega)]
    have hC : ∀ W, Cur W cu → Calls Try.prog 109 #[.pointer (some ⟨cu, 0, none⟩)] W (RetD W cu 255) := fun W hW => l1Byte_any cu W hW
    have hnz : (n == 0) = false := by rw [beq_eq_false_iff_ne]; omega
    by_cases h1 : n ≤ 256
    · go_enter Try.func67, Try.ntmps67
      go_wp2_with fail
      refine (hC w h).mono ?_
      rintro e w1 ⟨x, rfl, hx1, hx2, hc1, ho1⟩
      have hm := tmod_bd hx1 (show 0 < n by omega)
      go_wp2
      go_ret
      exact ⟨_, rfl, hm.1, hm.2, hc1, ho1⟩
    · go_enter Try.func67, Try.ntmps67
      go_wp2_with fail
      refine (hC w h).mono ?_
      rintro e w1 ⟨x, rfl, hx1, hx2, hc1, ho1⟩
      go_wp2_with fail
      refine (hC w1 hc1).mono ?_
      rintro e w2 ⟨y, rfl, hy1, hy2, hc2, ho2⟩
      go_wp2_with fail
      refine (hC w2 hc2).mono ?_
      rintro e w3 ⟨z, rfl, hz1, hz2, hc3, ho3⟩
      go_wp2_with fail
      refine (hC w3 hc3).mono ?_
      rintro e w4 ⟨t, rfl, ht1, ht2, hc4, ho4⟩
      have hs0 : 0 ≤ x * 16777216 + y * 65536 + z * 256 + t := by omega
      have hm := tmod_bd hs0 (show 0 < n by omega)
      have ho := ((ho1.trans ho2).trans ho3).trans ho4
      go_wp2
      go_ret
      exact ⟨_, rfl, hm.1, hm.2, hc4, ho⟩

/-- .. or a yes or no. -/
def RetDB (w : World) (cu : Nat) (e : Ending) (w' : World) : Prop := ∃ b : Bool, e = .returned (.bool b) ∧ Cur w' cu ∧ Out cu (cu + 1) w w'
theorem l1Once_any (cu : Nat) (n : Int) (w : World) (h : Cur w cu) (hn : n ≤ 2097152) (hn0 : -2097152 ≤ n) :
    Calls Try.prog 69 #[.pointer (some ⟨cu, 0, none⟩), .int .i64 n] w (RetDB w cu) := by
  have hC := l1Below_any cu n w h hn hn0
  go_enter Try.func69, Try.ntmps69
  go_wp2_with fail
  refine hC.mono ?_
  rintro e w1 ⟨x, rfl, hx1, hx2, hc1, ho1⟩
  go_wp2
  go_ret
  exact ⟨_, rfl, hc1, ho1⟩

set_option maxHeartbeats 1000000 in
/-- A cursor, new. -/
theorem l1New_any (a : Option Addr) (n c : Nat) (w : World) (hn : n ≤ 1048576) (h : Byts w w.heap.size a n) :
    Calls Try.prog 64 #[.slice a n c] w fun e w' => ∃ cu, e = .returned (.pointer (some ⟨cu, 0, none⟩)) ∧ w.heap.size ≤ cu ∧ Cur w' cu ∧ Below w.heap.size w w' := by
  go_enter Try.func64, Try.ntmps64
  go_wp2
  go_loopw [3, 4] (fun hv iv wr => ∃ (i : Nat) (h : Int), i ≤ n ∧ hv = .int .i64 h ∧ iv = .int .i64 i ∧ wr = w) (fun _ iv _ => n - (intOf iv).toNat)
  case atStart => exact ⟨0, _, Nat.zero_le _, rfl, by go_num, rfl⟩
  case round =>
    obtain ⟨i, hv, hi, rfl, rfl, hwr⟩ := hrel
    obtain rfl : w = wr := hwr.symm
    by_cases hlt : i < n
    · by_cases h4 : (i : Int) < 4000
      · obtain ⟨b, o, z, rfl, hbc, hz, hz1, hz2⟩ := h i hlt
        go_wp2
        go_roundw
        case rel => exact ⟨i + 1, _, by omega, rfl, by go_num, by first | rfl | trivial⟩
        case measure => simp [intOf]; omega
      · go_wp2
        go_ret
        exact ⟨w.heap.size, rfl, Nat.le_refl _, ⟨a, n, c, 0, hv, hn, Nat.zero_le _, h.below (below_alloc _ _), by simp, by simp [World.cell?_alloc_at], by simp [World.cell?_alloc_at], by simp [World.cell?_alloc_at], by simp [World.frozen?_alloc_at], by simp [World.frozen?_alloc_at]⟩, below_alloc _ _⟩
    · go_wp2
      go_ret
      exact ⟨w.heap.size, rfl, Nat.le_refl _, ⟨a, n, c, 0, hv, hn, Nat.zero_le _, h.below (below_alloc _ _), by simp, by simp [World.cell?_alloc_at], by simp [World.cell?_alloc_at], by simp [World.cell?_alloc_at], by simp [World.frozen?_alloc_at], by simp [World.frozen?_alloc_at]⟩, below_alloc _ _⟩
end Go.Proofs.Ytmojniiimondfaa
