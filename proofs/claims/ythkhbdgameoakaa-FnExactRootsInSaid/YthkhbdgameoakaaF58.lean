/- RootsIn of the program. No condition. -/
import Derived.Test.YthkhbdgameoakaaF56
import Derived.Test.YthkhbdgameoakaaF64
namespace Go.Proofs.Ythkhbdgameoakaa
open Go.RowKit

set_option maxHeartbeats 1000000 in
theorem impl_RootsIn (a : Option Addr) (n c : Nat) (xs : List Int) (w : World) (h : SlI w a n c xs) :
    Calls Try.prog 20 #[.slice a n c] w (RetII w (rooP xs)) := by
  have hI := impl_IsPerm a n c xs w h
  have HN : Hid (xs.length = n) := h.2.1
  have hcase : (Perm8 xs ∧ 1 ≤ n) ∨ (decide (Perm8 xs) = true ∧ n = 0 ∧ rooP xs = []) ∨ (decide (Perm8 xs) = false ∧ rooP xs = []) := by
    by_cases hp : Perm8 xs
    · by_cases h0 : n = 0
      · refine .inr (.inl ⟨decide_eq_true hp, h0, ?_⟩)
        unfold rooP
        rw [if_pos hp, rtsF_short (by rw [HN.out, h0]; omega)]; rfl
      · exact .inl ⟨hp, by omega⟩
    · exact .inr (.inr ⟨decide_eq_false hp, if_neg hp⟩)
  rcases hcase with ⟨hp, hn⟩ | hc
  · rw [decide_eq_true hp] at hI
    have HP : Hid (Perm8 xs) := hp
    have h8 : n ≤ 8 := by have h1 := hp.1; have h2 := HN.out; omega
    have e : rooP xs = ordL (rtsF 8 xs) := if_pos hp
    have hn0 : ((n : Int) == 0) = false := by rw [beq_eq_false_iff_ne]; omega
    rw [e]; clear e hp
    go_enter Try.func20, Try.ntmps20
    go_wp2_with fail
    refine hI.mono ?_
    rintro e w1 ⟨rfl, hb1⟩
    have hR := roots_any 8 (Nat.le_refl _) a n c xs w1 (h.below hb1) HP h8
    clear hI
    go_wp2_with fail
    refine hR.mono ?_
    rintro e w2 ⟨a2, n2, c2, rfl, ho2, hb2⟩
    have hii : IIs w2 a2 n2 c2 (rtsF 8 xs) := ho2.iis (by have h1 := ho2.len; have h2 := rtsF_bound 8 HP.out; omega) (fun r hr => by have := rtsF_rows 8 xs HP.out r hr; omega)
    have hO := ordered_any a2 n2 c2 _ w2 hii hii.2.2.1
    clear hR ho2 hii
    go_wp2_with fail
    refine hO.mono ?_
    rintro e w3 ⟨a3, n3, c3, rfl, ho3, hb3⟩
    have hbb := hb1.trans (hb2.mono hb1.size)
    have hbc := hbb.trans (hb3.mono hbb.size)
    have HO := Lib.hid ho3
    clear hO ho3
    go_wp2
    go_ret
    exact ⟨_, _, _, rfl, HO.out.mono hbb.size (Nat.le_refl _), hbc⟩
  · have e : rooP xs = [] := by rcases hc with h1 | h1; exact h1.2.2; exact h1.2
    rw [e]; clear e
    have hc2 : (decide (Perm8 xs) = true ∧ n = 0) ∨ decide (Perm8 xs) = false := by rcases hc with h1 | h1; exact .inl ⟨h1.1, h1.2.1⟩; exact .inr h1.1
    clear hc
    rcases hc2 with ⟨hd, rfl⟩ | hd
    all_goals
      rw [hd] at hI
      clear hd
      go_enter Try.func20, Try.ntmps20
      go_wp2_with fail
      refine hI.mono ?_
      rintro e w1 ⟨rfl, hb1⟩
      go_wp2
      go_ret
      exact ⟨_, _, _, rfl, OwnII.nil _ _ _, hb1⟩
end Go.Proofs.Ythkhbdgameoakaa
