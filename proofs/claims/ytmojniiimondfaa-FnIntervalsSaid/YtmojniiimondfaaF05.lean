/- The walks of the comparisons, of reverse, complement, and of the laws' subjects over them, of the program and of the reference. Conditions: as the names say. -/
import Derived.Test.YtmojniiimondfaaF04
namespace Go.Proofs.Ytmojniiimondfaa
open Go.RowKit

set_option maxHeartbeats 400000 in
theorem l2Same_any (a b : Option Addr) (n m c d : Nat) (xs ys : List Int) (w : World) (ha : Ints w a xs) (hb : Ints w b ys) (hn : xs.length = n) (hm : ys.length = m) (_hnb : n ≤ 2097152) (_hmb : m ≤ 2097152) :
    Calls Try.prog 99 #[.slice a n c, .slice b m d] w fun e w' => e = .returned (.bool (decide (xs = ys))) ∧ Quiet w w' := by
  have HN := Lib.hid hn; clear hn
  have HM := Lib.hid hm; clear hm
  by_cases hnm : n = m
  · subst hnm
    go_enter Try.func99, Try.ntmps99
    go_wp2
    go_loopw [5] (fun i wr => ∃ k : Nat, k ≤ n ∧ i = .int .i64 k ∧ Hid (xs.take k = ys.take k) ∧ ∃ q, wr = w.drewN q) (fun i _ => n - (intOf i).toNat)
    case atStart => exact ⟨0, Nat.zero_le _, rfl, by simp [Hid], 0, rfl⟩
    case round =>
      obtain ⟨k, hk, rfl, ht, q, rfl⟩ := hrel
      by_cases hlt : k < n
      · obtain ⟨ab, ao, x, rfl, hx, HX⟩ := ha.at (i := k) (by rw [HN.out]; exact hlt)
        obtain ⟨bb, bo, y, rfl, hy, HY⟩ := hb.at (i := k) (by rw [HM.out]; exact hlt)
        go_wp2
        go_quiet (fail)
        by_cases hxy : x = y
        · have ht' : Hid (xs.take (k + 1) = ys.take (k + 1)) := take_eq_succ ht.out HX.out HY.out hxy
          go_wp2
          go_roundw
          case rel => exact ⟨k + 1, by omega, by go_num, ht', _, rfl⟩
          case measure => simp [intOf]; omega
        · have hf : Hid (xs ≠ ys) := fun h => hxy (by have h1 := HX.out; have h2 := HY.out; rw [h] at h1; rw [h1] at h2; exact Option.some.inj h2)
          go_wp2
          go_ret
          exact ⟨ret_bool (decide_eq_false hf.out).symm, ((Quiet.refl _).drewN _).drewN _⟩
      · have hf : Hid (xs = ys) := by
          have e1 := HN.out; have e2 := HM.out; have e3 := ht.out
          have : k = n := by omega
          subst this
          rwa [List.take_of_length_le (by omega), List.take_of_length_le (by omega)] at e3
        go_wp2
        go_ret
        exact ⟨ret_bool (decide_eq_true hf.out).symm, (Quiet.refl _).drewN _⟩
  · have hf : Hid (xs ≠ ys) := fun h => hnm (by rw [← HN.out, ← HM.out, h])
    go_enter Try.func99, Try.ntmps99
    go_wp2
    go_ret
    exact ⟨ret_bool (decide_eq_false hf.out).symm, Quiet.refl _⟩

set_option maxHeartbeats 400000 in
theorem slicesEqual_any (a b : Option Addr) (n m c d : Nat) (xs ys : List Int) (w : World) (ha : Ints w a xs) (hb : Ints w b ys) (hn : xs.length = n) (hm : ys.length = m) (_hnb : n ≤ 2097152) (_hmb : m ≤ 2097152) :
    Calls Try.prog 116 #[.slice a n c, .slice b m d] w fun e w' => e = .returned (.bool (decide (xs = ys))) ∧ Quiet w w' := by
  have HN := Lib.hid hn; clear hn
  have HM := Lib.hid hm; clear hm
  by_cases hnm : n = m
  · subst hnm
    go_enter Try.func116, Try.ntmps116
    go_wp2
    go_loopw [13] (fun i wr => ∃ k : Nat, k ≤ n ∧ i = .int .i64 k ∧ Hid (xs.take k = ys.take k) ∧ ∃ q, wr = w.drewN q) (fun i _ => n - (intOf i).toNat)
    case atStart => exact ⟨0, Nat.zero_le _, rfl, by simp [Hid], 0, rfl⟩
    case round =>
      obtain ⟨k, hk, rfl, ht, q, rfl⟩ := hrel
      by_cases hlt : k < n
      · obtain ⟨ab, ao, x, rfl, hx, HX⟩ := ha.at (i := k) (by rw [HN.out]; exact hlt)
        obtain ⟨bb, bo, y, rfl, hy, HY⟩ := hb.at (i := k) (by rw [HM.out]; exact hlt)
        go_wp2
        go_quiet (fail)
        by_cases hxy : x = y
        · have ht' : Hid (xs.take (k + 1) = ys.take (k + 1)) := take_eq_succ ht.out HX.out HY.out hxy
          go_wp2
          go_roundw
          case rel => exact ⟨k + 1, by omega, by go_num, ht', _, rfl⟩
          case measure => simp [intOf]; omega
        · have hf : Hid (xs ≠ ys) := fun h => hxy (by have h1 := HX.out; have h2 := HY.out; rw [h] at h1; rw [h1] at h2; exact Option.some.inj h2)
          go_wp2
          go_ret
          exact ⟨ret_bool (decide_eq_false hf.out).symm, ((Quiet.refl _).drewN _).drewN _⟩
      · have hf : Hid (xs = ys) := by
          have e1 := HN.out; have e2 := HM.out; have e3 := ht.out
          have : k = n := by omega
          subst this
          rwa [List.take_of_length_le (by omega), List.take_of_length_le (by omega)] at e3
        go_wp2
        go_ret
        exact ⟨ret_bool (decide_eq_true hf.out).symm, (Quiet.refl _).drewN _⟩
  · have hf : Hid (xs ≠ ys) := fun h => hnm (by rw [← HN.out, ← HM.out, h])
    go_enter Try.func116, Try.ntmps116
    go_wp2
    go_ret
    exact ⟨ret_bool (decide_eq_false hf.out).symm, Quiet.refl _⟩


/-! ### complement -/
/-- n + 1 - v -/
def compl (xs : List Int) : List Int := xs.map fun v => (xs.length : Int) + 1 - v
theorem length_compl (xs : List Int) : (compl xs).length = xs.length := by simp [compl]
/-- Numbers from 0 to n. -/
def Upto (n : Nat) (xs : List Int) : Prop := ∀ x ∈ xs, 0 ≤ x ∧ x ≤ (n : Int)
theorem IsPermL.upto {xs : List Int} (h : IsPermL xs) : Upto xs.length xs := fun x hx => by have := h.1 x hx; omega

set_option maxHeartbeats 400000 in
theorem complement_any (a : Option Addr) (n c : Nat) (xs : List Int) (w : World) (h : SlI w a n c xs) (hp : Hid (Upto xs.length xs)) :
    Calls Try.prog 113 #[.slice a n c] w (RetI w (compl xs)) := by
  obtain ⟨ha, hn, hnb, _⟩ := h
  have HN := Lib.hid hn; clear hn
  go_enter Try.func113, Try.ntmps113
  go_wp2
  go_loopw [3, 9] (fun v i wr => ∃ (k c : Nat) (a : Option Addr), k ≤ n ∧ i = .int .i64 k ∧ v = .slice a k c ∧ OwnI wr w.heap.size a k c ((compl xs).take k) ∧ Below w.heap.size w wr) (fun _ i _ => n - (intOf i).toNat)
  case atStart => exact ⟨0, 0, _, Nat.zero_le _, rfl, rfl, OwnI.lit0 w, below_alloc _ _⟩
  case round =>
    obtain ⟨k, c1, a1, hk, rfl, rfl, ho, hb⟩ := hrel
    by_cases hlt : k < n
    · obtain ⟨bb, bo, x, rfl, hx, HX⟩ := (ha.below hb).at (i := k) (by rw [HN.out]; exact hlt)
      have hx0 := hp.out x (List.mem_of_getElem? HX.out)
      rw [HN.out] at hx0
      obtain ⟨hx1, hx2⟩ := hx0
      go_wp2_with (at_builtin; refine wpList_appI rfl _ _ rfl w.heap.size _ _ _ _ rfl ho _ rfl (by omega) hb.size ?_)
      intro a' c' w1 h1 h3
      have e : (compl xs)[k]? = some ((n : Int) + 1 - x) := by simp [compl, HX.out, HN.out]
      rw [← take_snoc e] at h1
      clear e
      go_wp2
      go_roundw
      case rel => exact ⟨k + 1, c', a', by omega, by go_num, rfl, h1, hb.trans h3⟩
      case measure => simp [intOf]; omega
    · have : k = n := by omega
      subst this
      rw [List.take_of_length_le (by rw [length_compl, HN.out]; exact Nat.le_refl _)] at ho
      go_wp2
      go_ret
      exact ⟨_, _, _, rfl, ho, hb⟩

set_option maxHeartbeats 400000 in
theorem l3Complement_any (a : Option Addr) (n c : Nat) (xs : List Int) (w : World) (h : SlI w a n c xs) (hp : Hid (Upto xs.length xs)) :
    Calls Try.prog 95 #[.slice a n c] w (RetI w (compl xs)) := by
  obtain ⟨ha, hn, hnb, _⟩ := h
  have HN := Lib.hid hn; clear hn
  go_enter Try.func95, Try.ntmps95
  go_wp2
  go_loopw [3, 4] (fun v i wr => ∃ (k c : Nat) (a : Option Addr), k ≤ n ∧ i = .int .i64 k ∧ v = .slice a k c ∧ OwnI wr w.heap.size a k c ((compl xs).take k) ∧ Below w.heap.size w wr) (fun _ i _ => n - (intOf i).toNat)
  case atStart => exact ⟨0, 0, _, Nat.zero_le _, rfl, rfl, OwnI.lit0 w, below_alloc _ _⟩
  case round =>
    obtain ⟨k, c1, a1, hk, rfl, rfl, ho, hb⟩ := hrel
    by_cases hlt : k < n
    · obtain ⟨bb, bo, x, rfl, hx, HX⟩ := (ha.below hb).at (i := k) (by rw [HN.out]; exact hlt)
      have hx0 := hp.out x (List.mem_of_getElem? HX.out)
      rw [HN.out] at hx0
      obtain ⟨hx1, hx2⟩ := hx0
      go_wp2_with (at_builtin; refine wpList_appI rfl _ _ rfl w.heap.size _ _ _ _ rfl ho _ rfl (by omega) hb.size ?_)
      intro a' c' w1 h1 h3
      have e : (compl xs)[k]? = some ((n : Int) + 1 - x) := by simp [compl, HX.out, HN.out]
      rw [← take_snoc e] at h1
      clear e
      go_wp2
      go_roundw
      case rel => exact ⟨k + 1, c', a', by omega, by go_num, rfl, h1, hb.trans h3⟩
      case measure => simp [intOf]; omega
    · have : k = n := by omega
      subst this
      rw [List.take_of_length_le (by rw [length_compl, HN.out]; exact Nat.le_refl _)] at ho
      go_wp2
      go_ret
      exact ⟨_, _, _, rfl, ho, hb⟩

/-! ### reverse -/
set_option maxHeartbeats 400000 in
theorem l3Reverse_any (a : Option Addr) (n c : Nat) (xs : List Int) (w : World) (h : SlI w a n c xs) :
    Calls Try.prog 92 #[.slice a n c] w (RetI w xs.reverse) := by
  obtain ⟨ha, hn, hnb, _⟩ := h
  have HN := Lib.hid hn; clear hn
  go_enter Try.func92, Try.ntmps92
  go_wp2
  go_loopw [3, 4] (fun v i wr => ∃ (k c : Nat) (a : Option Addr), k ≤ n ∧ i = .int .i64 ((n : Int) - 1 - (k : Int)) ∧ v = .slice a k c ∧ OwnI wr w.heap.size a k c (xs.reverse.take k) ∧ Below w.heap.size w wr) (fun _ i _ => (intOf i + 1).toNat)
  case atStart => exact ⟨0, 0, _, Nat.zero_le _, by go_num, rfl, OwnI.lit0 w, below_alloc _ _⟩
  case round =>
    obtain ⟨k, c1, a1, hk, rfl, rfl, ho, hb⟩ := hrel
    by_cases hlt : k < n
    · obtain ⟨j, hj⟩ : ∃ j : Nat, n = j + 1 + k := ⟨n - 1 - k, by omega⟩
      have ej : (n : Int) - 1 - (k : Int) = (j : Int) := by omega
      have hjn : j < n := by omega
      have HJ := Lib.hid hj
      rw [ej]
      obtain ⟨bb, bo, x, rfl, hx, HX⟩ := (ha.below hb).at (i := j) (by rw [HN.out]; exact hjn)
      have EJ := Lib.hid ej
      clear hj ej
      go_wp2_with (at_builtin; refine wpList_appI rfl _ _ rfl w.heap.size _ _ _ _ rfl ho _ rfl (by omega) hb.size ?_)
      intro a' c' w1 h1 h3
      have e : xs.reverse[k]? = some x := by
        have h1 := HN.out; have h2 := HJ.out
        rw [List.getElem?_reverse (by omega), h1, show n - 1 - k = j by omega]; exact HX.out
      rw [← take_snoc e] at h1
      clear e
      go_wp2
      go_roundw
      case rel => exact ⟨k + 1, c', a', by omega, by have := HJ.out; go_num, rfl, h1, hb.trans h3⟩
      case measure => simp [intOf]
    · have : k = n := by omega
      subst this
      rw [List.take_of_length_le (by rw [List.length_reverse, HN.out]; exact Nat.le_refl _)] at ho
      have hneg : (k : Int) - 1 - (k : Int) < 0 := by omega
      go_wp2
      go_ret
      exact ⟨_, _, _, rfl, ho, hb⟩

/-- Reversed at the k first and the k last places. -/
def revTo (xs : List Int) (k : Nat) : List Int := (List.range xs.length).map fun p => if p < k ∨ xs.length - k ≤ p then xs.getD (xs.length - 1 - p) 0 else xs.getD p 0
theorem length_revTo (xs : List Int) (k : Nat) : (revTo xs k).length = xs.length := by simp [revTo]
theorem revTo_get {xs : List Int} {k p : Nat} (hp : p < xs.length) : (revTo xs k)[p]? = some (if p < k ∨ xs.length - k ≤ p then xs.getD (xs.length - 1 - p) 0 else xs.getD p 0) := by
  simp [revTo, hp]
theorem revTo_zero (xs : List Int) : revTo xs 0 = xs := by
  apply List.ext_getElem?
  intro p
  by_cases hp : p < xs.length
  · rw [revTo_get hp, if_neg (by omega)]; simp [hp]
  · rw [List.getElem?_eq_none (by rw [length_revTo]; omega), List.getElem?_eq_none (by omega)]
theorem revTo_full {xs : List Int} {k : Nat} (h : xs.length ≤ 2 * k + 1) : revTo xs k = xs.reverse := by
  apply List.ext_getElem?
  intro p
  by_cases hp : p < xs.length
  · rw [revTo_get hp, List.getElem?_reverse hp]
    split
    · simp [List.getD, show xs.length - 1 - p < xs.length by omega]
    · have : p = xs.length - 1 - p := by omega
      rw [← this]; simp [hp]
  · rw [List.getElem?_eq_none (by rw [length_revTo]; omega), List.getElem?_eq_none (by rw [List.length_reverse]; omega)]
theorem revTo_succ {xs : List Int} {k j : Nat} {x y : Int} (hj : xs.length = j + 1 + k) (hkj : k < j) (hx : (revTo xs k)[k]? = some x) (hy : (revTo xs k)[j]? = some y) :
    ((revTo xs k).set k y).set j x = revTo xs (k + 1) := by
  have ex : x = xs.getD k 0 := by rw [revTo_get (by omega), if_neg (by omega)] at hx; exact (Option.some.inj hx).symm
  have ey : y = xs.getD j 0 := by rw [revTo_get (by omega), if_neg (by omega)] at hy; exact (Option.some.inj hy).symm
  apply List.ext_getElem?
  intro p
  by_cases hp : p < xs.length
  · rw [List.getElem?_set, List.getElem?_set, revTo_get hp, revTo_get hp]
    simp only [List.length_set, length_revTo]
    by_cases e1 : j = p
    · subst e1
      rw [if_pos rfl, if_pos hp, if_pos (by omega), ex, show xs.length - 1 - j = k by omega]
    · rw [if_neg e1]
      by_cases e2 : k = p
      · subst e2
        rw [if_pos rfl, if_pos hp, if_pos (by omega), ey, show xs.length - 1 - k = j by omega]
      · rw [if_neg e2]
        by_cases e3 : p < k ∨ xs.length - k ≤ p
        · rw [if_pos e3, if_pos (by omega)]
        · rw [if_neg e3, if_neg (by omega)]
  · rw [List.getElem?_eq_none (by rw [List.length_set, List.length_set, length_revTo]; omega), List.getElem?_eq_none (by rw [length_revTo]; omega)]

set_option maxHeartbeats 400000 in
theorem slicesReverse_any (a : Option Addr) (n c B : Nat) (xs : List Int) (w : World) (h : OwnI w B a n c xs) (hnb : n ≤ 2097152) :
    Calls Try.prog 127 #[.slice a n c] w fun e w' => e = .returned (.tuple #[]) ∧ OwnI w' B a n c xs.reverse ∧ w.grownBy w' (Value.slice a n c).ownBlock := by
  have HN : Hid (xs.length = n) := h.1
  go_enter Try.func127, Try.ntmps127
  go_wp2
  go_loopw [2, 3] (fun i j wr => ∃ k : Nat, k ≤ n ∧ i = .int .i64 k ∧ j = .int .i64 ((n : Int) - 1 - (k : Int)) ∧ OwnI wr B a n c (revTo xs k) ∧ w.grownBy wr (Value.slice a n c).ownBlock) (fun i j _ => (intOf j + 1 - intOf i).toNat)
  case atStart => exact ⟨0, Nat.zero_le _, rfl, by go_num, by rw [revTo_zero]; exact h, World.grownBy.refl _ _⟩
  case round =>
    obtain ⟨k, hk, rfl, rfl, ho, hg⟩ := hrel
    by_cases hlt : (k : Int) < (n : Int) - 1 - (k : Int)
    · obtain ⟨j, hj⟩ : ∃ j : Nat, n = j + 1 + k := ⟨n - 1 - k, by omega⟩
      have ej : (n : Int) - 1 - (k : Int) = (j : Int) := by omega
      have hjn : j < n := by omega
      have hkj : k < j := by omega
      have HJ := Lib.hid hj
      rw [ej]
      have EJ := Lib.hid ej
      clear hj ej hlt
      obtain ⟨g, rfl, hgB, hgs⟩ := ho.head (by omega)
      obtain ⟨x, hx, HX⟩ := ho.cell (j := k) (by omega)
      obtain ⟨y, hy, HY⟩ := ho.cell (j := j) hjn
      have hf1 := ho.frozen k
      have hf2 := ho.frozen j
      go_wp2
      go_region
      go_wp2
      go_roundw
      case rel =>
        obtain ⟨_, h1, g1⟩ := ho.set k y
        obtain ⟨_, h2, g2⟩ := h1.set j x
        have hl : xs.length = j + 1 + k := by rw [HN.out]; exact HJ.out
        rw [revTo_succ hl hkj HX.out HY.out] at h2
        exact ⟨k + 1, by omega, by go_num, by have := HJ.out; go_num, h2.drewN 1, grownBy_drewN (grownBy_trans hg (grownBy_trans g1 g2)) 1⟩
      case measure => have := HJ.out; simp [intOf]; omega
    · have HF : Hid (n ≤ 2 * k + 1) := by show n ≤ 2 * k + 1; omega
      go_wp2
      go_end0
      refine ⟨rfl, ?_, hg⟩
      rw [revTo_full (by rw [HN.out]; exact HF.out)] at ho
      exact ho

/-! ### slices.Clone -/
set_option maxHeartbeats 400000 in
/-- slices.Clone: a copy; nil of nil. -/
theorem slicesClone_any (a : Option Addr) (n c : Nat) (xs : List Int) (w : World) (h : SlI w a n c xs) :
    Calls Try.prog 126 #[.slice a n c] w fun e w' => ∃ a' n' c', e = .returned (.slice a' n' c') ∧ OwnI w' w.heap.size a' n' c' xs ∧ Below w.heap.size w w' := by
  have HN : Hid (xs.length = n) := h.2.1
  have hne := Lib.run_eql_slice_nil (P := Try.prog) w 28 3 a n c 0 0 Try.underlying28
  cases a with
  | none =>
    obtain rfl : xs = [] := by
      cases xs with
      | nil => rfl
      | cons x xs => obtain ⟨b, o, h1, _⟩ := h.1 0 x rfl; cases h1
    obtain rfl : n = 0 := HN.out.symm
    go_enter Try.func126, Try.ntmps126
    go_wp2
    go_ret
    exact ⟨none, 0, 0, rfl, OwnI.nil _ _, Below.refl _ _⟩
  | some p =>
    obtain ⟨hi, hn, hnb, hc⟩ := h
    have hi' : SlI (w.alloc (.cells #[] 3)) (some p) n c xs := ⟨hi.alloc _, HN.out, hnb, hc⟩
    clear hn
    go_enter Try.func126, Try.ntmps126
    go_wp2_with (at_builtin; refine wpList_append_all rfl _ _ rfl w.heap.size _ _ _ _ rfl (OwnI.lit0 w) p n c xs rfl hi' (by omega) (by simp) ?_)
    intro a' c' w1 h1 _ _ h3
    go_wp2
    go_ret
    exact ⟨_, _, _, rfl, by simpa using h1, (below_alloc _ _).trans h3⟩

set_option maxHeartbeats 400000 in
theorem reverse_any (a : Option Addr) (n c : Nat) (xs : List Int) (w : World) (h : SlI w a n c xs) :
    Calls Try.prog 117 #[.slice a n c] w (RetI w xs.reverse) := by
  have hn : n ≤ 2097152 := h.2.2.1
  have HN : Hid (xs.length = n) := h.2.1
  go_enter Try.func117, Try.ntmps117
  go_wp2_with fail
  refine (slicesClone_any a n c xs _ h).mono ?_
  rintro e w1 ⟨a1, n1, c1, rfl, ho1, hb1⟩
  have HN1 : Hid (xs.length = n1) := ho1.1
  go_wp2_with fail
  refine (slicesReverse_any a1 n1 c1 _ xs _ ho1 (by have h1 := HN.out; have h2 := HN1.out; omega)).mono ?_
  rintro e w2 ⟨rfl, ho2, hg2⟩
  go_wp2
  go_ret
  exact ⟨_, _, _, rfl, ho2, hb1.trans (grownBy_below hg2 hb1.size (fun k hk => (ho1.2.lt k hk).1))⟩

end Go.Proofs.Ytmojniiimondfaa
