/- The walk of the law FnSplit: it returns true, and writes to nothing that was there. Condition: the cell of the library's MaxLen holds an int. -/
import Derived.Test.YtmojniiimondfaaDoorD02
import Derived.Test.YtmojniiimondfaaDoorD03
import Derived.Test.YtmojniiimondfaaDoorT05
namespace Go.Proofs.YtmojniiimondfaaDoor
open Go.RowKit

def spL : List ByteArray := [⟨#[]⟩, ⟨#[97]⟩, ⟨#[97, 44, 98]⟩, ⟨#[44]⟩, ⟨#[97, 44, 44, 98, 44]⟩, ⟨#[97, 10, 98, 10]⟩]
theorem sp_small : ∀ s ∈ spL, s.size ≤ 10 := by decide
def byL : List Int := [44, 10]

set_option maxHeartbeats 1000000 in
theorem drawSplitByte_any (a : Option Addr) (n c : Nat) (w : World) (hn : n ≤ 1048576) (h : Byts w w.heap.size a n) :
    Calls Tryd.prog 17 #[.slice a n c] w fun e w' => ∃ (s : ByteArray) (b : UInt8), e = .returned (.tuple #[.string s, .int .u8 (b.toNat : Int)]) ∧ s.size ≤ 10 ∧ Below w.heap.size w w' := by
  have hC := l1New_any a n c w hn h
  go_enter Tryd.func17, Tryd.ntmps17
  go_wp2_with fail
  refine hC.mono ?_
  rintro e w1 ⟨cu, rfl, hcu, hc1, hb1⟩
  clear hC
  have hba := below_alloc w1 (.cells (spL.map .string).toArray 9)
  have hlt := hc1.lt
  have hP := l1Pick_any cu _ _ _ spL _ (hc1.below hba) (litS w1 spL (by decide)) (by decide) (fun p hp => by obtain rfl := Option.some.inj hp; exact hlt)
  go_wp2_with fail
  refine hP.mono ?_
  rintro e w3 ⟨y, rfl, hy, hc3, ho3⟩
  have hsz := sp_small y hy
  have hbe2 := hb1.trans (hba.mono hb1.size)
  have hbe3 := hbe2.trans (ho3.below hcu hbe2.size)
  clear hP hba hlt hc1 ho3
  have hba := below_alloc w3 (.cells (byL.map (.int .i64)).toArray 3)
  have hlt := hc3.lt
  have hP := l1PickInt_any cu _ _ _ byL _ (hc3.below hba) (litI w3 byL (by decide)) (by decide) (fun p hp => by obtain rfl := Option.some.inj hp; exact hlt)
  go_wp2_with fail
  refine hP.mono ?_
  rintro e w5 ⟨x, rfl, hx, hc5, ho5⟩
  have hbe4 := hbe3.trans (hba.mono hbe3.size)
  have hbe5 := hbe4.trans (ho5.below hcu hbe4.size)
  clear hP hba hlt
  have hx2 : x = 44 ∨ x = 10 := by simpa [byL] using hx
  rcases hx2 with rfl | rfl
  · go_wp2
    go_ret2
    exact ⟨y, 44, rfl, hsz, hbe5⟩
  · go_wp2
    go_ret2
    exact ⟨y, 10, rfl, hsz, hbe5⟩

theorem splS_data (b : UInt8) (l : List UInt8) : (splS b l).map (·.data.toList) = spl b l := by
  unfold splS
  rw [List.map_map]
  have e3 : ((fun x : ByteArray => x.data.toList) ∘ fun p : List UInt8 => (⟨p.toArray⟩ : ByteArray)) = id := by funext p; simp
  rw [e3, List.map_id]
theorem splS_one {b : UInt8} {l : List UInt8} {k : Nat} {s : ByteArray} (h : (splS b l)[k]? = some s) : (splS b s.data.toList).length = 1 ∧ s.size ≤ l.length := by
  obtain ⟨p, hp, rfl⟩ := List.mem_map.1 (List.mem_of_getElem? h)
  refine ⟨?_, ?_⟩
  · unfold splS
    rw [List.length_map]
    show (spl b p.toArray.toList).length = 1
    rw [List.toList_toArray, spl_none b p (spl_free b l p hp)]; rfl
  · show p.toArray.size ≤ _
    rw [List.size_toArray]
    exact spl_rows b l p hp

open Go.Shelf in
theorem joinBack_any (a : Option Addr) (n c : Nat) (s : ByteArray) (b : UInt8) (w : World) (h : SlS w a n c (splS b s.data.toList)) (hl : s.size ≤ 1048576) :
    Calls Tryd.prog 31 #[.slice a n c, .string ⟨#[b]⟩] w (RetV w (.string s)) := by
  obtain ⟨h1, h2, h3, h4⟩ := h
  subst h2
  have hj : Lib.join ((splS b s.data.toList).map (·.data.toList)) [b] = s.data.toList := by rw [splS_data]; exact spl_join b _
  obtain ⟨x, hx⟩ : ∃ x, (splS b s.data.toList)[0]? = some x := by
    cases hs : splS b s.data.toList with
    | nil =>
      exfalso
      have h5 := congrArg List.length hs
      unfold splS at h5
      rw [List.length_map] at h5
      exact spl_ne b s.data.toList (List.length_eq_zero_iff.1 h5)
    | cons x r => exact ⟨x, rfl⟩
  obtain ⟨bb, o, rfl, hc⟩ := h1 0 x hx
  have hcon := Any.strings_Join_48 (P := Tryd.prog) Tryd.lays156 Tryd.Builder_Extra_156 bb o c (splS b s.data.toList) ⟨#[b]⟩ w (fun j x hj => by
    obtain ⟨b', o', e1, e2⟩ := h1 j x hj
    simp only [Option.some.injEq, Addr.mk.injEq, and_true] at e1
    obtain ⟨rfl, rfl⟩ := e1
    exact e2) (World.block_lt_of_cell? w ⟨bb, o + 0, none⟩ hc) (by omega) h4 (by
      have e1 : (⟨#[b]⟩ : ByteArray).data.toList = [b] := rfl
      rw [e1, hj, sizeT]; omega)
  change Calls Tryd.prog 31 _ _ _ at hcon
  refine hcon.mono ?_
  rintro e w' ⟨rfl, hb⟩
  have e1 : (⟨#[b]⟩ : ByteArray).data.toList = [b] := rfl
  rw [e1, hj]
  exact ⟨rfl, hb⟩
theorem joinBack_impl (a : Option Addr) (n c : Nat) (s : ByteArray) (b : UInt8) (w : World) (h : SlS w a n c (splS b s.data.toList)) (hl : s.size ≤ 1048576) :
    Calls Tryd.prog 18 #[.slice a n c, .string ⟨#[b]⟩] w (RetV w (.string s)) := by
  have hC := joinBack_any a n c s b w h hl
  go_enter Tryd.func18, Tryd.ntmps18
  go_wp2_with fail
  refine hC.mono ?_
  rintro e w1 ⟨rfl, hb1⟩
  go_wp2
  go_ret
  exact ⟨rfl, hb1⟩

set_option maxHeartbeats 1600000 in
theorem FnSplit_walk (a : Option Addr) (n c : Nat) (z : Unit) {w : World} (hin : InBytes w a n c z) (hm : MaxL w) :
    Calls Tryd.prog 5 #[.slice a n c] w fun e w' => e = .returned (.bool true) ∧ Below w.heap.size w w' := by
  obtain ⟨hB, hnc, hcm⟩ := hin
  have hG := big_any a n c w (by omega)
  by_cases hbig : 1048576 < n
  · rw [decide_eq_true hbig] at hG
    clear hbig
    go_enter Tryd.func5, Tryd.ntmps5
    go_wp2_with fail
    refine hG.mono ?_
    rintro e w1 ⟨rfl, rfl⟩
    go_wp2
    go_ret
    exact ⟨rfl, Below.refl _ _⟩
  rw [decide_eq_false hbig] at hG
  have hn : n ≤ 1048576 := by omega
  have hD := drawSplitByte_any a n c w hn hB
  clear hbig hnc hcm hB
  go_enter Tryd.func5, Tryd.ntmps5
  go_wp2_with fail
  refine hG.mono ?_
  rintro e w1 ⟨rfl, hw1⟩
  obtain rfl : w = w1 := hw1.symm
  clear hG
  go_wp2_with fail
  refine hD.mono ?_
  rintro e w1 ⟨s, b, rfl, hs, hb1⟩
  have hm1 := hm.below hb1
  clear hD
  have HI : Hid (∀ (s' : ByteArray) (W : World), s'.size ≤ 10 → MaxL W → Calls Tryd.prog 12 #[.string s', .int .u8 (b.toNat : Int)] W (RetSs W (splS b s'.data.toList))) := fun s' W h1 h2 => impl_SplitByte s' b W (by omega) h2
  have HS : Hid (∀ W, Calls Tryd.prog 11 #[.string s, .int .u8 (b.toNat : Int)] W (RetSs W (splS b s.data.toList))) := fun W => spec_SplitByte s b W (by omega)
  have HJ : Hid (∀ (a2 : Option Addr) (n2 c2 : Nat) (W : World), SlS W a2 n2 c2 (splS b s.data.toList) → Calls Tryd.prog 18 #[.slice a2 n2 c2, .string ⟨#[b]⟩] W (RetV W (.string s))) := fun a2 n2 c2 W h => joinBack_impl a2 n2 c2 s b W h (by omega)
  have HONE : Hid (∀ (k : Nat) (s' : ByteArray), (splS b s.data.toList)[k]? = some s' → (splS b s'.data.toList).length = 1 ∧ s'.size ≤ 10) := fun k s' h => by
    have h1 := splS_one h
    refine ⟨h1.1, ?_⟩
    have h2 := h1.2
    rw [sizeT] at h2; omega
  have hln : (splS b s.data.toList).length ≤ 11 := by have h1 := length_splS b s.data.toList; rw [sizeT] at h1; omega
  have hI1 := HI.out s w1 hs hm1
  generalize splS b s.data.toList = L at hI1 HS HJ HONE hln
  go_wp2_with fail
  refine hI1.mono ?_
  rintro e w2 ⟨a2, n2, c2, rfl, t2, hb2⟩
  have hn2 : n2 ≤ 11 := by have h1 := t2.1; omega
  have HN2 : Hid (L.length = n2) := t2.1
  have hB2 : Below w.heap.size w w2 := hb1.trans (hb2.mono hb1.size)
  have hl2 := t2.sl (by omega)
  clear hI1 t2 hm1 hln
  have hba := below_alloc w2 (.cells #[.int .u8 (b.toNat : Int)] 5)
  have hcv := conv1b w2 b _ rfl
  have hJ := HJ.out a2 n2 c2 _ (hl2.below hba)
  go_wp2_with fail
  refine hJ.mono ?_
  rintro e w3 ⟨rfl, hb3⟩
  have hB3' : Below w.heap.size w (w2.alloc (.cells #[.int .u8 (b.toNat : Int)] 5)) := hB2.trans (hba.mono hB2.size)
  have hB3 : Below w.heap.size w w3 := hB3'.trans (hb3.mono hB3'.size)
  have hb23 : Below w2.heap.size w2 w3 := hba.trans (hb3.mono hba.size)
  have hS3 := HS.out w3
  clear hJ hcv hba hB3' hb3
  go_wp2_with fail
  refine hS3.mono ?_
  rintro e w4 ⟨a4, n4, c4, rfl, t4, hb4⟩
  obtain rfl : n4 = n2 := by have h1 := t4.1; have h2 := HN2.out; omega
  have hB4 : Below w.heap.size w w4 := hB3.trans (hb4.mono hB3.size)
  have hb24 : Below w2.heap.size w2 w4 := hb23.trans (hb4.mono hb23.size)
  have hl4 := hl2.below hb24
  clear hS3 t4 hb23 hl2
  go_wp2
  go_loopw [6] (fun iv wr => ∃ i : Nat, i ≤ n4 ∧ iv = .int .i64 i ∧ Below w4.heap.size w4 wr) (fun iv _ => n4 - (intOf iv).toNat)
  case atStart => exact ⟨0, Nat.zero_le _, by go_num, Below.refl _ _⟩
  case round =>
    obtain ⟨i, hi, rfl, hbr⟩ := hrel
    by_cases hlt : i < n4
    · obtain ⟨ab, ao, s', rfl, hx, HX⟩ := (hl4.below hbr).1.at (i := i) (by rw [HN2.out]; exact hlt)
      obtain ⟨h1, h2⟩ := HONE.out i s' HX.out
      have hmr : MaxL wr := (hm.below (hB4.trans (hbr.mono hB4.size)))
      have hC := HI.out s' wr h2 hmr
      generalize splS b s'.data.toList = M at hC h1
      go_wp2_with fail
      refine hC.mono ?_
      rintro e w5 ⟨a5, n5, c5, rfl, t5, hb5⟩
      obtain rfl : n5 = 1 := by have h3 := t5.1; omega
      have hbn := hbr.trans (hb5.mono hbr.size)
      clear hC t5
      go_wp2
      go_roundw
      case rel => exact ⟨i + 1, by omega, by go_num, hbn⟩
      case measure => simp [intOf]; omega
    · go_wp2
      go_ret
      exact ⟨rfl, hB4.trans (hbr.mono hB4.size)⟩
end Go.Proofs.YtmojniiimondfaaDoor
