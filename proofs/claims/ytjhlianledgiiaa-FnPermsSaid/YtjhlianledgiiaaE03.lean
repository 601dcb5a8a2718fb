/- The draw of a text of a permutation. Condition: the code is at most 2^20 bytes. -/
import Derived.Test.YtjhlianledgiiaaE02
import Derived.Test.YtjhlianledgiiaaS02
import Derived.Deep.RegionLaw
namespace Go.Proofs.Ytjhlianledgiiaa
open Go.RowKit

/-- A text drawn. -/
def RetDS (w : World) (cu m : Nat) (e : Ending) (w' : World) : Prop := ∃ s : ByteArray, e = .returned (.string s) ∧ s.size ≤ m ∧ Cur w' cu ∧ Out cu (cu + 1) w w'

set_option maxHeartbeats 1000000 in
theorem l1Turned_any (cu : Nat) (t : ByteArray) (a : Option Addr) (n c : Nat) (ss : List ByteArray) (w : World) (h : Cur w cu) (ht : t.size ≤ 1000) (hs : SlS w a n c ss) (hn : 1 ≤ n) (ha : ∀ p, a = some p → cu + 1 ≤ p.block) (h1 : Hid (∀ s ∈ ss, s.size ≤ 1)) :
    Calls Try.prog 104 #[.pointer (some ⟨cu, 0, none⟩), .string t, .slice a n c] w (RetDS w cu 1001) := by
  have hC := l1Below_any cu ((t.size : Int) + 1) w h (by omega) (by omega)
  rw [upB_pos (by omega)] at hC
  go_enter Try.func104, Try.ntmps104
  go_wp2_with fail
  refine hC.mono ?_
  rintro e w1 ⟨x, rfl, hx1, hx2, hc1, ho1⟩
  obtain ⟨k, rfl⟩ : ∃ k : Nat, x = k := ⟨x.toNat, by omega⟩
  have hk : k ≤ t.size := by omega
  have hB := l1Below_any cu 6 w1 hc1 (by omega) (by omega)
  rw [upB_pos (by omega)] at hB
  have hs1 : SlS w1 a n c ss := ⟨hs.1.out ho1 (fun p hp => .inr (ha p hp)), hs.2⟩
  clear hC hx2
  go_wp2_with fail
  refine hB.mono ?_
  rintro e w2 ⟨y, rfl, hy1, hy2, hc2, ho2⟩
  have hs2 : SlS w2 a n c ss := ⟨hs1.1.out ho2 (fun p hp => .inr (ha p hp)), hs1.2⟩
  have hout2 := ho1.trans ho2
  clear hB
  by_cases h0 : y = 0
  · subst h0
    have HP : Hid (∀ W, Below w2.heap.size w2 W → Calls Try.prog 130 #[.pointer (some ⟨cu, 0, none⟩), .slice a n c] W fun e w' => ∃ s : ByteArray, e = .returned (.string s) ∧ s.size ≤ 1 ∧ Cur w' cu ∧ Out cu (cu + 1) w w') := fun W hb => (l1Pick_any cu a n c ss W (hc2.below hb) ⟨hs2.1.below hb, hs2.2⟩ hn ha).mono fun e w' ⟨s, e1, e2, e3, e4⟩ => ⟨s, e1, h1.out s e2, e3, (hout2.onBelow (hb.mono hout2.size)).trans e4⟩
    clear hs2 hs1 hs h ho1 ho2
    go_wp2
    go_region_law ((first
      | (go_simp; go_at_call 130; refine (HP.out _ (Below.refl _ _).drew).mono ?_; rintro e w3 ⟨s, rfl, hs3, hc3, ho3⟩; have hz1 : ¬ (9223372036854775807 < k + s.size) := (by omega); have hz2 : ¬ (9223372036854775807 < k + s.size + (t.size - k)) := (by omega))))
    all_goals
      have hz3 : (t.extract 0 k ++ s ++ t.extract k t.size).size ≤ 1001 := by
        rw [ByteArray.size_append, ByteArray.size_append, ByteArray.size_extract, ByteArray.size_extract]; omega
      clear hz1 hz2
      go_wp2
      go_ret
      exact ⟨_, rfl, hz3, hc3, ho3⟩
  · by_cases h1 : y = 1
    · subst h1
      go_wp2
      go_ret
      exact ⟨_, rfl, by rw [ByteArray.size_extract]; omega, hc2, hout2⟩
    · have e0 : (y == 0) = false := by rw [beq_eq_false_iff_ne]; exact h0
      have e1 : (y == 1) = false := by rw [beq_eq_false_iff_ne]; exact h1
      go_wp2
      go_ret
      exact ⟨t, rfl, by omega, hc2, hout2⟩

theorem size_ptx (xs : List Int) : (⟨(ptx xs).toArray⟩ : ByteArray).size ≤ 9 := by
  show (ptx xs).toArray.size ≤ 9
  rw [List.size_toArray]
  unfold ptx
  split
  · rename_i h
    split
    · simp
    · rw [length_ptL]; have := h.1; omega
  · simp

set_option maxHeartbeats 1000000 in
theorem drawParsePerm_any (a : Option Addr) (n c : Nat) (w : World) (hn : n ≤ 1048576) (h : Byts w w.heap.size a n) :
    Calls Try.prog 54 #[.slice a n c] w fun e w' => ∃ s : ByteArray, e = .returned (.string s) ∧ s.size ≤ 1001 ∧ Below w.heap.size w w' := by
  have hC := l1New_any a n c w hn h
  go_enter Try.func54, Try.ntmps54
  go_wp2_with fail
  refine hC.mono ?_
  rintro e w1 ⟨cu, rfl, hcu, hc1, hb1⟩
  have hW := l2Any_any cu w1 hc1
  have hcl := hc1.lt
  clear hC
  go_wp2_with fail
  refine hW.mono ?_
  rintro e w2 ⟨g, m, d, xs, rfl, hm, ho, hc2, ho2⟩
  have hP := spec_PermText _ m d xs w2 (ho.sl (by omega))
  have hsz := size_ptx xs
  clear hW ho
  go_wp2_with fail
  refine hP.mono ?_
  rintro e w3 ⟨rfl, hb3⟩
  obtain ⟨T, hT⟩ : ∃ T : ByteArray, T = ⟨(ptx xs).toArray⟩ := ⟨_, rfl⟩
  rw [← hT] at hsz ⊢
  have hc3 := hc2.below hb3
  have hba := below_alloc w3 (.cells (([⟨#[49]⟩, ⟨#[50]⟩, ⟨#[45]⟩, ⟨#[57]⟩, ⟨#[48]⟩] : List ByteArray).map .string).toArray 9)
  have hout3 : Out cu (cu + 1) w1 w3 := ho2.onBelow (hb3.mono ho2.size)
  have hTu := l1Turned_any cu T _ _ _ [⟨#[49]⟩, ⟨#[50]⟩, ⟨#[45]⟩, ⟨#[57]⟩, ⟨#[48]⟩] _ (hc3.below hba) (by omega) (litS w3 [⟨#[49]⟩, ⟨#[50]⟩, ⟨#[45]⟩, ⟨#[57]⟩, ⟨#[48]⟩] (by decide)) (by decide) (fun p hp => by obtain rfl := Option.some.inj hp; exact hc3.lt) (by show ∀ s ∈ _, _; decide)
  have hout4 : Out cu (cu + 1) w1 _ := hout3.onBelow (hba.mono hout3.size)
  clear hP hT
  go_wp2_with fail
  refine hTu.mono ?_
  rintro e w5 ⟨s, rfl, hs, hc5, ho5⟩
  have hbe := draw_below hcu hb1 (hout4.trans ho5)
  clear hTu
  go_wp2
  go_ret
  exact ⟨s, rfl, hs, hbe⟩
end Go.Proofs.Ytjhlianledgiiaa
