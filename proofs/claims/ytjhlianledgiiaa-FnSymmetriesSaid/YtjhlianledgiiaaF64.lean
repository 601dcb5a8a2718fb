/- 'ordered' of the program: copies, sorted, each once. Conditions: on the sizes. -/
import Derived.Test.YtjhlianledgiiaaF60
import Derived.Test.YtjhlianledgiiaaF63
import Derived.Test.YtjhlianledgiiaaF06
namespace Go.Proofs.Ytjhlianledgiiaa
open Go.RowKit

theorem OwnII.block {w : World} {lo hi n c : Nat} {a : Option Addr} {xss : List (List Int)} (h : OwnII w lo hi a n c xss) : ∀ k, (Value.slice a n c).ownBlock = some k → lo ≤ k ∧ k < hi := by
  intro k hk
  obtain ⟨rs, h1, h2, h3, h4, _⟩ := h
  obtain ⟨p, hp, rfl⟩ := ownBlock_some hk
  subst hp
  exact ⟨(h3.lt _ rfl).1, h4 p rfl⟩

set_option maxHeartbeats 1000000 in
theorem ordered_any (a : Option Addr) (n c : Nat) (xss : List (List Int)) (w : World) (h : IIs w a n c xss) (hnb : n ≤ 2097152) :
    Calls Try.prog 81 #[.slice a n c] w (RetII w (ordL xss)) := by
  have HN : Hid (xss.length = n) := h.2.1
  have HL : Hid (∀ xs ∈ xss, xs.length ≤ 2097152) := by
    intro xs hx
    obtain ⟨i, hi⟩ := List.getElem?_of_mem hx
    obtain ⟨b, o, r, _, _, h3⟩ := h.1 i xs hi
    rw [h3.2.1]; exact h3.2.2.1
  go_enter Try.func81, Try.ntmps81
  go_wp2
  go_loopw [3, 5, 9] (fun v _ i wr => ∃ (k c1 : Nat) (a1 : Option Addr), k ≤ n ∧ i = .int .i64 k ∧ v = .slice a1 k c1 ∧ OwnII wr w.heap.size wr.heap.size a1 k c1 (xss.take k) ∧ Below w.heap.size w wr) (fun _ _ i _ => n - (intOf i).toNat)
  case atStart => exact ⟨0, 0, _, Nat.zero_le _, rfl, rfl, OwnII.start w, below_alloc _ _⟩
  case round =>
    obtain ⟨k, c1, a1, hk, rfl, rfl, ho, hb⟩ := hrel
    by_cases hlt : k < n
    · obtain ⟨ab, ao, ra, rn, rc, xs, rfl, hx, hr, HX⟩ := (h.below hb).at hlt
      have hC := slicesClone_any ra rn rc xs wr hr
      have HE : Hid (xss.take (k + 1) = xss.take k ++ [xs]) := take_snoc HX.out
      clear hr
      go_wp2_with fail
      refine hC.mono ?_
      rintro e w1 ⟨a4, n4, c4, rfl, ho4, hb4⟩
      have ho1 := ho.below hb4
      have hsz := hb4.size
      go_wp2_with (at_builtin; refine wpList_appII rfl _ _ rfl w.heap.size _ _ _ _ _ _ rfl ho1 _ _ _ _ ho4.ins (Nat.le_refl _) hb.size _ rfl rfl (by omega) (by have := hb.size; omega) (by omega) ?_)
      intro a' c' w2 g1 g2 _
      have hbb := (hb.trans (hb4.mono hb.size)).trans g2
      clear ho4 ho1 hb4 hC
      go_wp2
      go_roundw
      case rel => exact ⟨k + 1, c', a', by omega, by go_num, rfl, by rw [HE.out]; exact g1, hbb⟩
      case measure => simp [intOf]; omega
    · obtain rfl : k = n := by omega
      have ho' : OwnII wr w.heap.size wr.heap.size a1 k c1 xss := by rwa [List.take_of_length_le (by rw [HN.out]; exact Nat.le_refl _)] at ho
      have hblk := ho'.block
      obtain ⟨rs, hrs⟩ := ho'
      have hS := sortRows_any a1 k c1 w.heap.size wr.heap.size rs xss wr hrs (by omega) HL.out
      clear ho hrs
      go_wp2_with fail
      refine hS.mono ?_
      rintro e w2 ⟨rfl, yss, hperm, hwsc, ho2, hg2⟩
      have hyl : yss.length = k := by rw [hperm.length_eq]; exact HN.out
      have HE : Hid (cptN yss k = ordL xss) := by have := cpt_ord hwsc hperm; rwa [hyl] at this
      have HL2 : Hid (∀ xs ∈ yss, xs.length ≤ 2097152) := fun xs hx => HL.out xs (hperm.mem_iff.1 hx)
      obtain ⟨rs2, hrs2⟩ := ho2
      have hC := compactFunc_any a1 k c1 w.heap.size wr.heap.size rs2 yss w2 hrs2 (by omega) HL2
      clear hS hrs2 hperm hwsc hyl
      go_wp2_with fail
      refine hC.mono ?_
      rintro e w3 ⟨a3, n3, c3, rfl, ho3, hg3⟩
      have hg := grownBy_trans hg2 hg3
      rw [HE.out] at ho3
      clear hC
      go_wp2
      go_ret
      exact ⟨_, _, _, rfl, ho3.mono (Nat.le_refl _) hg.size, hb.grown hg hb.size (fun j hj => (hblk j hj).1)⟩
end Go.Proofs.Ytjhlianledgiiaa
