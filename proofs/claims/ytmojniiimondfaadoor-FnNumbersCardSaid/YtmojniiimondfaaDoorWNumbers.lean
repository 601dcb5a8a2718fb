/- The walk of the law FnNumbers: it returns true, and writes to nothing that was there. Conditions: the library's table of powers of ten and its two errors are as start-up lays them. -/
import Derived.Test.YtmojniiimondfaaDoorD02
import Derived.Test.YtmojniiimondfaaDoorD03
import Derived.Test.YtmojniiimondfaaDoorN03
namespace Go.Proofs.YtmojniiimondfaaDoor
open Go.RowKit

def pnL : List ByteArray := [⟨#[]⟩, ⟨#[48, 48]⟩, ⟨#[48, 49]⟩, ⟨#[45, 49]⟩, ⟨#[43, 49]⟩, ⟨#[120]⟩, ⟨#[57, 57, 57, 57, 57, 57]⟩, ⟨#[49, 48, 48, 48, 48, 48, 48]⟩, ⟨#[45, 48]⟩, ⟨#[45]⟩, ⟨#[32, 49]⟩, ⟨#[49, 32]⟩]
theorem pn_small : ∀ s ∈ pnL, s.size ≤ 10 := by decide

set_option maxHeartbeats 1000000 in
theorem drawParseNumber_any (a : Option Addr) (n c : Nat) (w : World) (hn : n ≤ 1048576) (h : Byts w w.heap.size a n) :
    Calls Tryd.prog 24 #[.slice a n c] w fun e w' => ∃ s : ByteArray, e = .returned (.string s) ∧ s.size ≤ 1048576 ∧ Below w.heap.size w w' := by
  have hC := l1New_any a n c w hn h
  go_enter Tryd.func24, Tryd.ntmps24
  go_wp2_with fail
  refine hC.mono ?_
  rintro e w1 ⟨cu, rfl, hcu, hc1, hb1⟩
  have hO := l1Once_any cu 2 w1 hc1 (by omega) (by omega)
  clear hC
  go_wp2_with fail
  refine hO.mono ?_
  rintro e w2 ⟨b, rfl, hc2, ho2⟩
  have hbe := draw_below hcu hb1 ho2
  clear hO
  cases b with
  | true =>
    have hW := l1Whole_any cu w2 hc2
    go_wp2_with fail
    refine hW.mono ?_
    rintro e w3 ⟨x, rfl, hx, hc3, ho3⟩
    have hbe3 := hbe.trans (ho3.below hcu hbe.size)
    have hF := formatInt_any x w3 hx
    have hb : -9223372036854775808 ≤ x ∧ x ≤ 9223372036854775807 := by
      have h1 := hx; simp [Lit.wf] at h1; have e1 : IntKind.i64.min = -9223372036854775808 := by decide
      have e2 : IntKind.i64.max = 9223372036854775807 := by decide
      omega
    have hl : (⟨(Lib.itoa x).toArray⟩ : ByteArray).size ≤ 1048576 := by
      have h1 := Lib.itoa_length_le x hb.1 hb.2
      show (Lib.itoa x).toArray.size ≤ _
      rw [List.size_toArray]; omega
    generalize (⟨(Lib.itoa x).toArray⟩ : ByteArray) = s at hF hl
    clear hW hb
    go_wp2_with fail
    refine hF.mono ?_
    rintro e w4 ⟨rfl, hb4⟩
    go_wp2
    go_ret
    exact ⟨s, rfl, hl, hbe3.trans (hb4.mono hbe3.size)⟩
  | false =>
    have hba := below_alloc w2 (.cells (pnL.map .string).toArray 9)
    have hlt := hc2.lt
    have hP := l1Pick_any cu _ _ _ pnL _ (hc2.below hba) (litS w2 pnL (by decide)) (by decide) (fun p hp => by obtain rfl := Option.some.inj hp; exact hlt)
    go_wp2_with fail
    refine hP.mono ?_
    rintro e w3 ⟨y, rfl, hy, hc3, ho3⟩
    have hsz := pn_small y hy
    have hbe2 := hbe.trans (hba.mono hbe.size)
    have hbe3 := hbe2.trans (ho3.below hcu hbe2.size)
    go_wp2
    go_ret
    exact ⟨y, rfl, by omega, hbe3⟩

theorem itoa_len (n : Int) : (Lib.itoa n).length = Lib.nDigits n.natAbs + (if n < 0 then 1 else 0) := by
  unfold Lib.itoa
  by_cases h : n < 0
  · rw [if_pos h, if_pos h, List.length_cons, Lib.decDigits_length]
  · rw [if_neg h, if_neg h, Lib.decDigits_length]
    have : n.toNat = n.natAbs := by omega
    rw [this]; rfl
theorem digits12 (u : Nat) : Lib.nDigits u ≤ 12 ↔ u ≤ 999999999999 := by
  have e12 : (10 : Nat) ^ 12 = 1000000000000 := by decide
  constructor
  · intro h
    have h1 := Lib.lt_pow_nDigits u
    have h2 := Nat.pow_le_pow_right (n := 10) (by decide) h
    omega
  · intro h
    exact nDigits_le (by decide) (by omega)

set_option maxHeartbeats 1600000 in
theorem FnNumbers_walk (a : Option Addr) (n c : Nat) (z : Unit) {w : World} (hin : InBytes w a n c z) (hp : Pow w) (he : Errs w) :
    Calls Tryd.prog 8 #[.slice a n c] w fun e w' => e = .returned (.bool true) ∧ Below w.heap.size w w' := by
  obtain ⟨hB, hnc, hcm⟩ := hin
  have hG := big_any a n c w (by omega)
  by_cases hbig : 1048576 < n
  · rw [decide_eq_true hbig] at hG
    clear hbig
    go_enter Tryd.func8, Tryd.ntmps8
    go_wp2_with fail
    refine hG.mono ?_
    rintro e w1 ⟨rfl, rfl⟩
    go_wp2
    go_ret
    exact ⟨rfl, Below.refl _ _⟩
  rw [decide_eq_false hbig] at hG
  have hn : n ≤ 1048576 := by omega
  have hD := drawFormatInt_any a n c w hn hB
  have hD2 : ∀ W, Below w.heap.size w W → Calls Tryd.prog 24 #[.slice a n c] W fun e w' => ∃ s : ByteArray, e = .returned (.string s) ∧ s.size ≤ 1048576 ∧ Below W.heap.size W w' := fun W hb => drawParseNumber_any a n c W hn ((hB.below hb).mono hb.size)
  have HD2 := Lib.hid hD2
  clear hbig hnc hcm hB hD2
  go_enter Tryd.func8, Tryd.ntmps8
  go_wp2_with fail
  refine hG.mono ?_
  rintro e w1 ⟨rfl, hw1⟩
  obtain rfl : w = w1 := hw1.symm
  clear hG
  go_wp2_with fail
  refine hD.mono ?_
  rintro e w1 ⟨x, rfl, hx, hb1⟩
  clear hD
  have hxb : -9223372036854775808 ≤ x ∧ x ≤ 9223372036854775807 := by
    have h1 := hx; simp [Lit.wf] at h1; have e1 : IntKind.i64.min = -9223372036854775808 := by decide
    have e2 : IntKind.i64.max = 9223372036854775807 := by decide
    omega
  have hF := impl_FormatInt x w1 hx (hp.below hb1)
  have hS : ∀ W, Calls Tryd.prog 9 #[.int .i64 x] W (RetV W (.string ⟨(Lib.itoa x).toArray⟩)) := fun W => formatInt_any x W hx
  have hlen := itoa_len x
  have hl21 := Lib.itoa_length_le x hxb.1 hxb.2
  have hd12 := digits12 x.natAbs
  have hsz : (⟨(Lib.itoa x).toArray⟩ : ByteArray).size = (Lib.itoa x).length := by show (Lib.itoa x).toArray.size = _; rw [List.size_toArray]
  have hI : ∀ W, Pow W → Errs W → Calls Tryd.prog 20 #[.string ⟨(Lib.itoa x).toArray⟩] W (RetV W (prs (numIn (-999999999999) 999999999999 (Lib.itoa x)))) := fun W h1 h2 => by
    have h3 := impl_ParseInt ⟨(Lib.itoa x).toArray⟩ W (by rw [hsz]; omega) h1 h2
    simpa using h3
  rw [numIn_itoa ⟨by omega, by omega⟩] at hI
  obtain ⟨O, hO⟩ : ∃ O, O = (if -999999999999 ≤ x ∧ x ≤ 999999999999 then some x else none) := ⟨_, rfl⟩
  rw [← hO] at hI
  generalize (⟨(Lib.itoa x).toArray⟩ : ByteArray) = S at hF hS hI hsz
  have hcase : (¬ x < 0 ∧ S.size ≤ 12 ∧ S.size ≤ 13 ∧ O = some x) ∨ (x < 0 ∧ S.size ≤ 12 ∧ S.size ≤ 13 ∧ O = some x) ∨ (x < 0 ∧ ¬ S.size ≤ 12 ∧ S.size ≤ 13 ∧ O = some x) ∨ (¬ x < 0 ∧ ¬ S.size ≤ 12 ∧ True ∧ O = none) ∨ (x < 0 ∧ ¬ S.size ≤ 12 ∧ ¬ S.size ≤ 13 ∧ O = none) := by
    by_cases hr : -999999999999 ≤ x ∧ x ≤ 999999999999
    · rw [if_pos hr] at hO
      have h12 := hd12.2 (by omega)
      by_cases hneg : x < 0
      · rw [if_pos hneg] at hlen
        by_cases h1 : S.size ≤ 12
        · exact .inr (.inl ⟨hneg, h1, by omega, hO⟩)
        · exact .inr (.inr (.inl ⟨hneg, h1, by omega, hO⟩))
      · rw [if_neg hneg] at hlen
        exact .inl ⟨hneg, by omega, by omega, hO⟩
    · rw [if_neg hr] at hO
      have h12 : ¬ Lib.nDigits x.natAbs ≤ 12 := fun h => by have := hd12.1 h; omega
      by_cases hneg : x < 0
      · rw [if_pos hneg] at hlen
        exact .inr (.inr (.inr (.inr ⟨hneg, by omega, by omega, hO⟩)))
      · rw [if_neg hneg] at hlen
        exact .inr (.inr (.inr (.inl ⟨hneg, by omega, trivial, hO⟩)))
  have hcase2 : (¬ x < 0 ∧ decide ((S.size : Int) ≤ 12) = true ∧ decide ((S.size : Int) ≤ 13) = true ∧ O = some x) ∨ (x < 0 ∧ decide ((S.size : Int) ≤ 12) = true ∧ decide ((S.size : Int) ≤ 13) = true ∧ O = some x) ∨ (x < 0 ∧ decide ((S.size : Int) ≤ 12) = false ∧ decide ((S.size : Int) ≤ 13) = true ∧ O = some x) ∨ (¬ x < 0 ∧ decide ((S.size : Int) ≤ 12) = false ∧ True ∧ O = none) ∨ (x < 0 ∧ decide ((S.size : Int) ≤ 12) = false ∧ decide ((S.size : Int) ≤ 13) = false ∧ O = none) := by
    rcases hcase with ⟨g1, g2, g3, g4⟩ | ⟨g1, g2, g3, g4⟩ | ⟨g1, g2, g3, g4⟩ | ⟨g1, g2, g3, g4⟩ | ⟨g1, g2, g3, g4⟩
    · exact .inl ⟨g1, decide_eq_true (by omega), decide_eq_true (by omega), g4⟩
    · exact .inr (.inl ⟨g1, decide_eq_true (by omega), decide_eq_true (by omega), g4⟩)
    · exact .inr (.inr (.inl ⟨g1, decide_eq_false (by omega), decide_eq_true (by omega), g4⟩))
    · exact .inr (.inr (.inr (.inl ⟨g1, decide_eq_false (by omega), trivial, g4⟩)))
    · exact .inr (.inr (.inr (.inr ⟨g1, decide_eq_false (by omega), decide_eq_false (by omega), g4⟩)))
  have hS21 : S.size ≤ 21 := by omega
  clear hcase
  have HI := Lib.hid hI
  have HS := Lib.hid hS
  clear hI hS hO hlen hl21 hd12 hsz hx
  go_wp2_with fail
  refine hF.mono ?_
  rintro e w2 ⟨rfl, hb2⟩
  have hB2 := hb1.trans (hb2.mono hb1.size)
  clear hF
  rcases hcase2 with ⟨g1, g2, g3, rfl⟩ | ⟨g1, g2, g3, rfl⟩ | ⟨g1, g2, g3, rfl⟩ | ⟨g1, g2, g3, rfl⟩ | ⟨g1, g2, g3, rfl⟩
  all_goals
    have hI := HI.out w2 (hp.below hB2) (he.below hB2)
    unfold prs at hI
    simp only [Option.getD_some, Option.isSome_some, Option.getD_none, Option.isSome_none] at hI
    go_wp2_with fail
    refine hI.mono ?_
    rintro e w3 ⟨rfl, hb3⟩
    have hB3 := hB2.trans (hb3.mono hB2.size)
    have hS3 := HS.out w3
    clear hI
    go_wp2_with fail
    refine hS3.mono ?_
    rintro e w4 ⟨rfl, hb4⟩
    have hB4 := hB3.trans (hb4.mono hB3.size)
    clear hS3
    have hD := HD2.out w4 hB4
    go_wp2_with fail
    refine hD.mono ?_
    rintro e w5 ⟨t, rfl, ht, hb5⟩
    have hB5 := hB4.trans (hb5.mono hB4.size)
    clear hD
    have hN := impl_ParseNumber t w5 ht (hp.below hB5) (he.below hB5)
    have hM : ∀ W, Calls Tryd.prog 21 #[.string t] W (RetV W (prs (numIn 0 999999 t.data.toList))) := fun W => spec_ParseNumber t W ht
    rcases hO2 : numIn 0 999999 t.data.toList with _ | y
    · rw [hO2] at hN hM
      unfold prs at hN hM
      simp only [Option.getD_none, Option.isSome_none] at hN hM
      clear hO2
      go_wp2_with fail
      refine hN.mono ?_
      rintro e w6 ⟨rfl, hb6⟩
      have hB6 := hB5.trans (hb6.mono hB5.size)
      have hM6 := hM w6
      clear hN hM
      go_wp2_with fail
      refine hM6.mono ?_
      rintro e w7 ⟨rfl, hb7⟩
      have hB7 := hB6.trans (hb7.mono hB6.size)
      clear hM6
      go_wp2
      go_ret
      exact ⟨rfl, hB7⟩
    · rw [hO2] at hN hM
      unfold prs at hN hM
      simp only [Option.getD_some, Option.isSome_some] at hN hM
      obtain ⟨hy1, hy2, hy3⟩ := (numIn_iff ⟨by omega, by omega⟩).1 hO2
      have hyw : (Lit.int .i64 y).wf = true := wfN (by omega) (by omega)
      have hQ : ∀ W, Pow W → Calls Tryd.prog 10 #[.int .i64 y] W (RetV W (.string ⟨(Lib.itoa y).toArray⟩)) := fun W h => impl_FormatInt y W hyw h
      have hee : (⟨(Lib.itoa y).toArray⟩ : ByteArray) = t := by rw [hy1]
      rw [hee] at hQ
      clear hO2 hee hy1 hyw
      go_wp2_with fail
      refine hN.mono ?_
      rintro e w6 ⟨rfl, hb6⟩
      have hB6 := hB5.trans (hb6.mono hB5.size)
      have hM6 := hM w6
      clear hN hM
      go_wp2_with fail
      refine hM6.mono ?_
      rintro e w7 ⟨rfl, hb7⟩
      have hB7 := hB6.trans (hb7.mono hB6.size)
      have hQ7 := hQ w7 (hp.below hB7)
      clear hM6 hQ
      go_wp2_with fail
      refine hQ7.mono ?_
      rintro e w8 ⟨rfl, hb8⟩
      have hB8 := hB7.trans (hb8.mono hB7.size)
      clear hQ7
      go_wp2
      go_ret
      exact ⟨rfl, hB8⟩
end Go.Proofs.YtmojniiimondfaaDoor
