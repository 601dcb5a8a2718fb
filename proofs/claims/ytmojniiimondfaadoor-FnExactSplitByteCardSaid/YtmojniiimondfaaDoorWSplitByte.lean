/- The walk of the law FnExactSplitByte: it returns true, and writes to nothing that was there. Condition: the cell of the library's MaxLen holds an int. -/
import Derived.Test.YtmojniiimondfaaDoorT05
namespace Go.Proofs.YtmojniiimondfaaDoor
open Go.RowKit

theorem SlS.out {w w' : World} {a : Option Addr} {n c lo hi : Nat} {ss : List ByteArray} (h : SlS w a n c ss) (ho : Out lo hi w w') (ha : ∀ p, a = some p → p.block < lo ∨ hi ≤ p.block) : SlS w' a n c ss := ⟨h.1.out ho ha, h.2⟩

set_option maxHeartbeats 1600000 in
theorem FnExactSplitByte_walk (s : ByteArray) (x : Int) {w : World} (hw : s.size ≤ maxLen) (hx : (Lit.int .u8 x).wf = true) (hm : MaxL w) :
    Calls Tryd.prog 4 #[.string s, .int .u8 x] w fun e w' => e = .returned (.bool true) ∧ Below w.heap.size w w' := by
  by_cases hbig : 1048576 < s.size
  · go_enter Tryd.func4, Tryd.ntmps4
    go_wp2
    go_ret
    exact ⟨rfl, Below.refl _ _⟩
  have hs : s.size ≤ 1048576 := by omega
  clear hbig hw
  obtain ⟨b, rfl⟩ := byte_of hx
  have hS := spec_SplitByte s b w hs
  have hI : ∀ W, MaxL W → Calls Tryd.prog 12 #[.string s, .int .u8 (b.toNat : Int)] W (RetSs W (splS b s.data.toList)) := fun W h => impl_SplitByte s b W hs h
  have hln : (splS b s.data.toList).length ≤ 1048577 := by have h1 := length_splS b s.data.toList; rw [sizeT] at h1; omega
  generalize splS b s.data.toList = L at hS hI hln
  have HLN := Lib.hid hln
  have HI := Lib.hid hI
  clear hI hln hx
  go_enter Tryd.func4, Tryd.ntmps4
  go_wp2_with fail
  refine hS.mono ?_
  rintro e w1 ⟨a1, n1, c1, rfl, t1, hb1⟩
  have hn1 : n1 ≤ 1048577 := by have h1 := t1.1; have h2 := HLN.out; omega
  have hlo1 := t1.lo
  have hl1 := t1.sl (by omega)
  have hm1 := hm.below hb1
  clear t1 hS
  go_wp2_with fail
  refine (HI.out w1 hm1).mono ?_
  rintro e w2 ⟨a2, n2, c2, rfl, t2, hb2⟩
  have hn2 : n2 ≤ 1048577 := by have h1 := t2.1; have h2 := HLN.out; omega
  have hB2 : Below w.heap.size w w2 := hb1.trans (hb2.mono hb1.size)
  have hlo2 := t2.lo
  have hl1' := hl1.below hb2
  have hm2 := hm1.below hb2
  have T2 := Lib.hid t2
  clear t2 hl1 hm1
  go_wp2_with fail
  refine (eqStringS_same a2 a1 n2 n1 c2 c1 L w2 (T2.out.sl (by omega)) hl1').mono ?_
  rintro e w3 ⟨rfl, hb3⟩
  have hB3 : Below w.heap.size w w3 := hB2.trans (hb3.mono hB2.size)
  have T3 := Lib.hid (T2.out.below hb3)
  have hl13 := hl1'.below hb3
  have hm3 := hm2.below hb3
  clear T2 hl1' hm2
  have hMk := markStringS_own a2 n2 c2 w1.heap.size 1 L w3 T3.out (by omega) (by omega)
  go_wp2_with fail
  refine hMk.mono ?_
  rintro e w4 ⟨rfl, t4, row, hg4, hrow⟩
  have hrowlt : ∀ k, row = some k → w1.heap.size ≤ k ∧ k < w2.heap.size := by
    intro k hk
    rw [hrow] at hk
    cases a2 with
    | none => simp [Value.ownBlock] at hk
    | some p => simp [Value.ownBlock] at hk; subst hk; exact hlo2 p rfl
  have hou : Out w1.heap.size w2.heap.size w3 w4 := Out.ofGrown hg4 hrowlt
  have hsz3 := hb3.size
  have hsz2 := hb2.size
  have hsz1 := hb1.size
  have hl14 := hl13.out hou (fun p hp => .inl (hlo1 p hp).2)
  have hB4 : Below w.heap.size w w4 := hB3.trans (hou.below hsz1 hB3.size)
  have hm4 : MaxL w4 := by
    obtain ⟨m, hmm⟩ := hm
    refine ⟨m, (hB4.cell (p := ⟨1, 0, none⟩) (World.block_lt_of_cell? w _ hmm)).trans hmm⟩
  have T4 := Lib.hid t4
  have hmlo : 1048577 + 1 ≤ 2147483648 := by omega
  clear hMk t4 hg4 hrow hrowlt hou hl13 hm3 T3 hlo1 hlo2
  go_wp2_with fail
  refine (heldStringS_own a2 n2 c2 1 w4 (T4.out.sl (by omega)) (by omega)).mono ?_
  rintro e w5 ⟨rfl, hb5⟩
  have hB5 : Below w.heap.size w w5 := hB4.trans (hb5.mono hB4.size)
  have T5 := Lib.hid (T4.out.below hb5)
  have hl15 := hl14.below hb5
  have hm5 := hm4.below hb5
  clear T4 hl14 hm4
  go_wp2_with fail
  refine (HI.out w5 hm5).mono ?_
  rintro e w6 ⟨a6, n6, c6, rfl, t6, hb6⟩
  have hn6 : n6 ≤ 1048577 := by have h1 := t6.1; have h2 := HLN.out; omega
  have hB6 : Below w.heap.size w w6 := hB5.trans (hb6.mono hB5.size)
  have T6 := Lib.hid (T5.out.below hb6)
  have hl16 := hl15.below hb6
  have hl6 := t6.sl (by omega)
  clear T5 hl15 hm5 t6
  go_wp2_with fail
  refine (eqStringS_same a6 a1 n6 n1 c6 c1 L w6 hl6 hl16).mono ?_
  rintro e w7 ⟨rfl, hb7⟩
  have hB7 : Below w.heap.size w w7 := hB6.trans (hb7.mono hB6.size)
  have T7 := Lib.hid (T6.out.below hb7)
  clear T6 hl6 hl16
  go_wp2_with fail
  refine (heldStringS_own a2 n2 c2 1 w7 (T7.out.sl (by omega)) (by omega)).mono ?_
  rintro e w8 ⟨rfl, hb8⟩
  have hB8 : Below w.heap.size w w8 := hB7.trans (hb8.mono hB7.size)
  go_wp2
  go_ret
  exact ⟨rfl, hB8⟩
end Go.Proofs.YtmojniiimondfaaDoor
