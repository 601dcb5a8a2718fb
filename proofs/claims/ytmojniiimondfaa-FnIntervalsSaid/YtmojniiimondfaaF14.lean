/- slices.Grow at the nil slice and slices.Concat at slices of integers. Condition: the lengths. -/
import Derived.Test.YtmojniiimondfaaII
import Derived.Lib.AppendZerosOnto
namespace Go.Proofs.Ytmojniiimondfaa
open Go.RowKit

set_option maxHeartbeats 800000 in
set_option maxRecDepth 100000 in
theorem slicesGrow_nil (n : Nat) (w : World) (hn : n ≤ 2097152) :
    Calls Try.prog 125 #[.slice none 0 0, .int .i64 n] w fun e w' => ∃ a c, e = .returned (.slice a 0 c) ∧ OwnI w' w.heap.size a 0 c [] ∧ Below w.heap.size w w' := by
  by_cases h0 : n = 0
  · subst h0
    go_enter Try.func125, Try.ntmps125
    go_wp2
    go_ret
    exact ⟨_, _, rfl, OwnI.nil _ _, Below.refl _ _⟩
  · obtain ⟨i0, hi, hz0, hz1, hz2⟩ := info_parts infoInt
    have hold : (Builtin.firstCells i0.size 0 (.slice none 0 0)).run Try.prog w.drew = .ok #[] w.drew := run_firstCells_none w.drew i0.size 0 0 0
    have hrz := fun ty => Lib.run_append_grow_zeros w 28 3 ty 3 i0 (.int .i64 0) .i64 .i64 Try.underlying28 Try.underlying3 hi hz0 none 0 0 [] hold n (by omega) (by omega) (by omega) (by omega) (by rw [hz2]; omega) (by rw [hz2]; exact growslice_fits (by omega) (by omega))
    simp only [Nat.zero_add] at hrz
    have hge := grownCap_ge w n 0 3
    have hle := grownCap_le_maxLen w n 0 3 (by unfold maxLen; omega)
    obtain ⟨G, hG⟩ : ∃ G, G = grownCap w n 0 3 := ⟨_, rfl⟩
    rw [← hG] at hrz hge hle
    have hG63 : G ≤ 9223372036854775807 := by unfold maxLen at hle; omega
    have HLE := Lib.hid hle
    obtain ⟨cs, hcs⟩ : ∃ cs : Array Value, cs = ([] : List Value).toArray ++ Builtin.zeroCells (Value.int .i64 0).cells n ++ Builtin.zeroCells (Value.int .i64 0).cells (G - n) := ⟨_, rfl⟩
    have hsz : cs.size = G * 1 := by
      rw [hcs]; simp only [Array.size_append, size_zeroCells]; simp [Value.cells]; omega
    rw [← hcs] at hrz
    have HSZ := Lib.hid hsz
    clear hcs hG hold hle hsz
    have hpos : (0 : Int) < (n : Int) := by omega
    go_enter Try.func125, Try.ntmps125
    have HR := Lib.hid hrz; clear hrz
    go_wp2_with (at_builtin; refine wpList_append_run rfl _ _ _ _ rfl _ _ _ rfl rfl (HR.out _) ?_)
    go_ret
    exact ⟨_, _, rfl, ⟨rfl, World.ownsRow_made w.drew cs G (Nat.le_refl _) HLE.out HSZ.out⟩, (below_drewN' (Below.refl _ _) 1).alloc (Nat.le_refl _) _⟩

theorem flat_take {xss : List (List Int)} {k : Nat} {xs : List Int} (h : xss[k]? = some xs) : (xss.take (k + 1)).flatten = (xss.take k).flatten ++ xs := by
  rw [take_snoc h]; simp
theorem flat_take_le (xss : List (List Int)) (k : Nat) : (xss.take k).flatten.length ≤ xss.flatten.length := by
  have e : xss = xss.take k ++ xss.drop k := (List.take_append_drop _ _).symm
  have e2 : xss.flatten.length = (xss.take k).flatten.length + (xss.drop k).flatten.length := by
    rw [← List.length_append, ← List.flatten_append, ← e]
  omega

set_option maxHeartbeats 800000 in
theorem slicesConcat_any (a : Option Addr) (n c : Nat) (xss : List (List Int)) (w : World) (h : IIs w a n c xss) (htot : Hid (xss.flatten.length ≤ 1048576)) :
    Calls Try.prog 114 #[.slice a n c] w (RetI w xss.flatten) := by
  have HN : Hid (xss.length = n) := h.2.1
  have hnb := h.2.2.1
  go_enter Try.func114, Try.ntmps114
  go_wp2
  go_loop [3, 11] (fun s i => ∃ k t : Nat, k ≤ n ∧ i = .int .i64 k ∧ s = .int .i64 (t : Int) ∧ t ≤ 1048576 ∧ Hid (t = (xss.take k).flatten.length)) (fun _ i => n - (intOf i).toNat)
  case atStart => exact ⟨0, 0, Nat.zero_le _, rfl, rfl, by omega, rfl⟩
  case round =>
    obtain ⟨k, t, hk, rfl, rfl, ht, HT⟩ := hrel
    by_cases hlt : k < n
    · obtain ⟨ab, ao, ra, rn, rc, xs, rfl, hcell, hsl, HX⟩ := h.at hlt
      have HT' : Hid (t + rn = (xss.take (k + 1)).flatten.length) := by
        show _ = _; rw [flat_take HX.out, List.length_append, ← HT.out, hsl.2.1]
      have ht' : t + rn ≤ 1048576 := by have h1 := HT'.out; have h2 := flat_take_le xss (k + 1); have h3 := htot.out; omega
      go_wp2
      go_round
      case rel => exact ⟨k + 1, t + rn, by omega, by go_num, by go_num, ht', HT'⟩
      case measure => simp [intOf]; omega
    · obtain rfl : k = n := by omega
      go_wp2_with fail
      refine (slicesGrow_nil t _ (by omega)).mono ?_
      rintro e w1 ⟨a1, c1, rfl, ho1, hb1⟩
      go_wp2
      go_loopw [6, 27] (fun s i wr => ∃ (j m c : Nat) (a : Option Addr), j ≤ k ∧ i = .int .i64 j ∧ s = .slice a m c ∧ OwnI wr w.heap.size a m c (xss.take j).flatten ∧ Below w.heap.size w wr) (fun _ i _ => k - (intOf i).toNat)
      case atStart => exact ⟨0, 0, c1, a1, Nat.zero_le _, rfl, rfl, ho1, hb1⟩
      case round =>
        obtain ⟨j, m, c2, a2, hj, rfl, rfl, ho, hb⟩ := hrel
        by_cases hlj : j < k
        · obtain ⟨ab, ao, ra, rn, rc, xs, rfl, hcell, hsl, HX⟩ := (h.below hb).at hlj
          have hm : m + rn ≤ 1048576 := by
            have h1 := ho.1; have h2 := flat_take_le xss (j + 1); have h3 := htot.out
            rw [flat_take HX.out, List.length_append, h1, hsl.2.1] at h2; omega
          go_wp2_with (at_builtin; refine wpList_append_any rfl _ _ rfl w.heap.size _ _ _ _ rfl ho _ _ _ _ rfl hsl (by omega) hb.size ?_)
          intro a' c' w2 g1 _ g2
          rw [← flat_take HX.out] at g1
          go_wp2
          go_roundw
          case rel => exact ⟨j + 1, m + rn, c', a', by omega, by go_num, rfl, g1, hb.trans g2⟩
          case measure => simp [intOf]; omega
        · obtain rfl : j = k := by omega
          rw [List.take_of_length_le (by rw [HN.out]; exact Nat.le_refl _)] at ho
          go_wp2
          go_ret
          exact ⟨_, _, _, rfl, ho, hb⟩
end Go.Proofs.Ytmojniiimondfaa
