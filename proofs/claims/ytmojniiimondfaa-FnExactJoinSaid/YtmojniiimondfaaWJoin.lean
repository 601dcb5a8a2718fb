/- The walk of the law FnExactJoin: it returns true, and writes to nothing that was there. -/
import Derived.Test.YtmojniiimondfaaT04
namespace Go.Proofs.Ytmojniiimondfaa
open Go.RowKit

set_option maxHeartbeats 1600000 in
theorem FnExactJoin_walk (aL : Option Addr) (nL cL : Nat) (xL : List ByteArray) (sBy : ByteArray) {w : World} (hinL : InStrings w aL nL cL xL) (hwBy : sBy.size ≤ maxLen) :
    Calls Try.prog 3 #[.slice aL nL cL, .string sBy] w fun e w' => e = .returned (.bool true) ∧ Below w.heap.size w w' := by
  by_cases hbig : 1048576 < sBy.size
  · go_enter Try.func3, Try.ntmps3
    go_wp2
    go_ret
    exact ⟨rfl, Below.refl _ _⟩
  have hs : sBy.size ≤ 1048576 := by omega
  have hC0 := szStringS_any aL nL cL xL 1048576 w hinL (by omega) (by omega)
  clear hbig hwBy
  go_enter Try.func3, Try.ntmps3
  go_wp2_with fail
  refine hC0.mono ?_
  rintro e w1 ⟨z, rfl, hw1, hz1, hz2, hz3⟩
  obtain rfl : w = w1 := hw1.symm
  clear hC0
  by_cases hneg : z < 0
  · clear hz3
    go_wp2
    go_ret
    exact ⟨rfl, Below.refl _ _⟩
  have hsum : nL + totS xL ≤ 1048576 := by omega
  have hsl : SlS w aL nL cL xL := ⟨hinL.1, hinL.2.1, by omega, hinL.2.2.1⟩
  have hmul : sBy.size * nL ≤ 1048576 * 1048576 := Nat.mul_le_mul hs (by omega)
  have hbd : sBy.size * nL + totS xL ≤ 4398046511104 := by omega
  have hbd2 : (jnS sBy xL).length ≤ 281474976710656 := by have h1 := jnS_len sBy xL; rw [hinL.2.1] at h1; omega
  have hS : ∀ (a : Option Addr) (n c : Nat) (W : World), SlS W a n c xL → Calls Try.prog 10 #[.slice a n c, .string sBy] W (RetV W (.string ⟨(jnS sBy xL).toArray⟩)) := fun a n c W h => spec_Join a n c xL sBy W h (by have h1 := h.2.1; rw [hinL.2.1] at h1; rw [← h1]; exact hbd) hs
  have hI : ∀ (a : Option Addr) (n c : Nat) (W : World), SlS W a n c xL → Calls Try.prog 12 #[.slice a n c, .string sBy] W (RetV W (.string ⟨(jnS sBy xL).toArray⟩)) := fun a n c W h => impl_Join a n c xL sBy W h hbd2
  have hT : ∀ W, Below w.heap.size w W → Calls Try.prog 11 #[.slice aL nL cL] W (RetSs W xL) := fun W hb => toStringS_any aL nL cL xL W (hsl.below hb)
  have hN : Hid (xL.length = nL) := hinL.2.1
  have hn20 : nL ≤ 1048576 := by omega
  generalize jnS sBy xL = L at hS hI
  clear hz3 hsum hmul hbd hbd2 hsl hinL
  have HS := Lib.hid hS
  have HI := Lib.hid hI
  have HT := Lib.hid hT
  clear hS hI hT
  go_wp2_with fail
  refine (HT.out w (Below.refl _ _)).mono ?_
  rintro e w2 ⟨a2, n2, c2, rfl, t2, hb2⟩
  have hs2 := t2.sl (by have h1 := t2.1; have h2 := hN.out; omega)
  clear t2
  go_wp2_with fail
  refine (HS.out a2 n2 c2 w2 hs2).mono ?_
  rintro e w3 ⟨rfl, hb3⟩
  have hB3 : Below w.heap.size w w3 := hb2.trans (hb3.mono hb2.size)
  clear hs2
  go_wp2_with fail
  refine (HT.out w3 hB3).mono ?_
  rintro e w4 ⟨a4, n4, c4, rfl, t4, hb4⟩
  have hB4 : Below w.heap.size w w4 := hB3.trans (hb4.mono hB3.size)
  have hs4 := t4.sl (by have h1 := t4.1; have h2 := hN.out; omega)
  clear t4
  go_wp2_with fail
  refine (HI.out a4 n4 c4 w4 hs4).mono ?_
  rintro e w5 ⟨rfl, hb5⟩
  have hB5 : Below w.heap.size w w5 := hB4.trans (hb5.mono hB4.size)
  have hs5 := hs4.below hb5
  clear hs4
  go_wp2_with fail
  refine (HT.out w5 hB5).mono ?_
  rintro e w6 ⟨a6, n6, c6, rfl, t6, hb6⟩
  have hB6 : Below w.heap.size w w6 := hB5.trans (hb6.mono hB5.size)
  have hs6 := t6.sl (by have h1 := t6.1; have h2 := hN.out; omega)
  have hs6' := hs5.below hb6
  clear t6 hs5
  go_wp2_with fail
  refine (eqStringS_same a4 a6 n4 n6 c4 c6 xL w6 hs6' hs6).mono ?_
  rintro e w7 ⟨rfl, hb7⟩
  have hB7 : Below w.heap.size w w7 := hB6.trans (hb7.mono hB6.size)
  go_wp2
  go_ret
  exact ⟨rfl, hB7⟩
end Go.Proofs.Ytmojniiimondfaa
