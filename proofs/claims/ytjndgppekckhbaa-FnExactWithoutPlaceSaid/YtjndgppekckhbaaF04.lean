/- The walks of the inverse and of the composition, of the program and of the reference. Condition: permutations. -/
import Derived.Test.YtjndgppekckhbaaF02
namespace Go.Proofs.Ytjndgppekckhbaa
open Go.RowKit

/-- The inverse after the first k places. -/
def invTo (xs : List Int) : Nat → List Int
  | 0 => List.replicate xs.length 0
  | k + 1 => (invTo xs k).set ((xs.getD k 0).toNat - 1) ((k : Int) + 1)
def inv (xs : List Int) : List Int := invTo xs xs.length
theorem length_invTo (xs : List Int) (k : Nat) : (invTo xs k).length = xs.length := by
  induction k with
  | zero => simp [invTo]
  | succ k ih => simp [invTo, ih]
theorem length_inv (xs : List Int) : (inv xs).length = xs.length := length_invTo _ _
theorem invTo_succ {xs : List Int} {k v : Nat} (h : xs[k]? = some (v : Int)) : invTo xs (k + 1) = (invTo xs k).set (v - 1) ((k : Int) + 1) := by
  simp [invTo, h]
theorem perm_at {xs : List Int} {k n : Nat} {x : Int} (hp : IsPermL xs) (hn : xs.length = n) (h : xs[k]? = some x) : ∃ v : Nat, x = (v : Int) ∧ 1 ≤ v ∧ v ≤ n := by
  have := hp.1 x (List.mem_of_getElem? h)
  exact ⟨x.toNat, by omega, by omega, by omega⟩

set_option maxHeartbeats 400000 in
theorem inverse_any (a : Option Addr) (n c : Nat) (xs : List Int) (w : World) (h : SlI w a n c xs) (hp : Hid (IsPermL xs)) :
    Calls Try.prog 94 #[.slice a n c] w (RetI w (inv xs)) := by
  obtain ⟨ha, hn, hnb, _⟩ := h
  have HN := Lib.hid hn; clear hn
  go_enter Try.func94, Try.ntmps94
  go_wp2_with (at_make; refine wpList_mk1 rfl _ _ 22 rfl 3 (.int .i64 0) 8 Try.underlying22 infoInt rfl _ _ n rfl rfl (by omega) (by omega) ?_)
  intro w1 h1 hb1
  go_wp2
  go_loopw [11] (fun i wr => ∃ k : Nat, k ≤ n ∧ i = .int .i64 k ∧ OwnI wr w.heap.size (some ⟨w.heap.size, 0, none⟩) n n (invTo xs k) ∧ Below w.heap.size w wr) (fun i _ => n - (intOf i).toNat)
  case atStart => exact ⟨0, Nat.zero_le _, rfl, ⟨by rw [length_invTo]; exact HN.out, by simp only [invTo, HN.out]; simpa using h1⟩, hb1⟩
  case round =>
    obtain ⟨k, hk, rfl, ho, hb⟩ := hrel
    by_cases hlt : k < n
    · obtain ⟨ab, ao, x, rfl, hx, HX⟩ := (ha.below hb).at (i := k) (by rw [HN.out]; exact hlt)
      obtain ⟨v, rfl, hv1, hv2⟩ := perm_at hp.out HN.out HX.out
      have hf := ho.frozen (v - 1)
      obtain ⟨y, hy, _⟩ := ho.cell (j := v - 1) (by omega)
      go_wp2
      go_roundw
      case rel =>
        obtain ⟨_, h2, h3⟩ := ho.set (v - 1) ((k : Int) + 1)
        rw [← invTo_succ HX.out] at h2
        exact ⟨k + 1, by omega, by go_num, h2, hb.trans (grownBy_below h3 hb.size (by simp))⟩
      case measure => simp [intOf]; omega
    · have : k = n := by omega
      subst this
      have e : invTo xs k = inv xs := by unfold inv; rw [HN.out]
      rw [e] at ho
      go_wp2
      go_ret
      exact ⟨_, _, _, rfl, ho, hb⟩

set_option maxHeartbeats 400000 in
theorem l2Inverse_any (a : Option Addr) (n c : Nat) (xs : List Int) (w : World) (h : SlI w a n c xs) (hp : Hid (IsPermL xs)) :
    Calls Try.prog 91 #[.slice a n c] w (RetI w (inv xs)) := by
  obtain ⟨ha, hn, hnb, _⟩ := h
  have HN := Lib.hid hn; clear hn
  go_enter Try.func91, Try.ntmps91
  go_wp2_with (at_make; refine wpList_mk1 rfl _ _ 22 rfl 3 (.int .i64 0) 8 Try.underlying22 infoInt rfl _ _ n rfl rfl (by omega) (by omega) ?_)
  intro w1 h1 hb1
  go_wp2
  go_loopw [4] (fun i wr => ∃ k : Nat, k ≤ n ∧ i = .int .i64 k ∧ OwnI wr w.heap.size (some ⟨w.heap.size, 0, none⟩) n n (invTo xs k) ∧ Below w.heap.size w wr) (fun i _ => n - (intOf i).toNat)
  case atStart => exact ⟨0, Nat.zero_le _, rfl, ⟨by rw [length_invTo]; exact HN.out, by simp only [invTo, HN.out]; simpa using h1⟩, hb1⟩
  case round =>
    obtain ⟨k, hk, rfl, ho, hb⟩ := hrel
    by_cases hlt : k < n
    · obtain ⟨ab, ao, x, rfl, hx, HX⟩ := (ha.below hb).at (i := k) (by rw [HN.out]; exact hlt)
      obtain ⟨v, rfl, hv1, hv2⟩ := perm_at hp.out HN.out HX.out
      have hf := ho.frozen (v - 1)
      obtain ⟨y, hy, _⟩ := ho.cell (j := v - 1) (by omega)
      go_wp2
      go_roundw
      case rel =>
        obtain ⟨_, h2, h3⟩ := ho.set (v - 1) ((k : Int) + 1)
        rw [← invTo_succ HX.out] at h2
        exact ⟨k + 1, by omega, by go_num, h2, hb.trans (grownBy_below h3 hb.size (by simp))⟩
      case measure => simp [intOf]; omega
    · have : k = n := by omega
      subst this
      have e : invTo xs k = inv xs := by unfold inv; rw [HN.out]
      rw [e] at ho
      go_wp2
      go_ret
      exact ⟨_, _, _, rfl, ho, hb⟩

/-- InversePerm. -/
def invP (xs : List Int) : List Int := if Perm8 xs then inv xs else []
theorem length_invP (xs : List Int) : (invP xs).length ≤ 8 := by
  unfold invP; split
  · rename_i h; rw [length_inv]; exact h.1
  · simp

theorem OwnI.lit0' {w : World} {B : Nat} (hB : B ≤ w.heap.size) : OwnI (w.alloc (.cells #[] 3)) B (some ⟨w.heap.size, 0, none⟩) 0 0 [] := (OwnI.lit0 w).mono hB

/-- p at q's numbers -/
def comp (p q : List Int) : List Int := q.map fun v => p.getD (v.toNat - 1) 0
theorem length_comp (p q : List Int) : (comp p q).length = q.length := by simp [comp]
theorem comp_snoc {p q : List Int} {k v : Nat} {y : Int} (h : q[k]? = some (v : Int)) (hy : p[v - 1]? = some y) : comp p (q.take (k + 1)) = comp p (q.take k) ++ [y] := by
  unfold comp; rw [take_snoc h]; simp [hy]

/-- ComposePerm -/
def ComposeOk (p q : List Int) : Prop := Perm8 p ∧ Perm8 q ∧ p.length = q.length
instance (p q : List Int) : Decidable (ComposeOk p q) := inferInstanceAs (Decidable (_ ∧ _))
def compP (p q : List Int) : List Int := if ComposeOk p q then comp p q else []
theorem length_compP (p q : List Int) : (compP p q).length ≤ 8 := by
  unfold compP; split
  · rename_i h; rw [length_comp]; exact h.2.1.1
  · simp

end Go.Proofs.Ytjndgppekckhbaa
