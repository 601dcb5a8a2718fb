/- The walks of IsPerm, of the program and of the reference. Condition: the length is at most 2^21. -/
import Derived.Test.YtmojniiimondfaaPure
import Derived.Test.YtmojniiimondfaaF01
namespace Go.Proofs.Ytmojniiimondfaa
open Go.RowKit

theorem infoBool : (Try.prog.info? 4).map (fun i => (i.zero, i.size, i.bytes)) = some (some (.bool false), 1, 1) := by kernel_rfl

set_option maxHeartbeats 400000 in
theorem l1In_any (x lo hi : Int) (b : Bool) (hb : Hid (b = decide (lo ≤ x ∧ x ≤ hi))) (w : World) :
    Calls Try.prog 73 #[.int .i64 x, .int .i64 lo, .int .i64 hi] w fun e w' => e = .returned (.bool b) ∧ w' = w := by
  by_cases h1 : lo ≤ x
  · by_cases h2 : x ≤ hi
    · obtain rfl : b = true := by rw [hb.out]; simp [h1, h2]
      go_enter Try.func73, Try.ntmps73
      go_wp2
      go_ret
      exact ⟨ret_bool (by simp [h2]), rfl⟩
    · obtain rfl : b = false := by rw [hb.out]; simp [h2]
      go_enter Try.func73, Try.ntmps73
      go_wp2
      go_ret
      exact ⟨ret_bool (by simp [h2]), rfl⟩
  · obtain rfl : b = false := by rw [hb.out]; simp [h1]
    go_enter Try.func73, Try.ntmps73
    go_wp2
    go_ret
    exact ⟨ret_bool (by simp), rfl⟩

set_option maxHeartbeats 400000 in
theorem l2Has_any (a : Option Addr) (n c : Nat) (xs : List Int) (x : Int) (b : Bool) (w : World) (ha : Ints w a xs) (hn : xs.length = n) (_hnb : n ≤ 2097152) (hb : Hid (b = decide (x ∈ xs))) :
    Calls Try.prog 100 #[.slice a n c, .int .i64 x] w fun e w' => e = .returned (.bool b) ∧ w' = w := by
  have HN := Lib.hid hn; clear hn
  go_enter Try.func100, Try.ntmps100
  go_wp2
  go_loop [5] (fun i => ∃ k : Nat, k ≤ n ∧ i = .int .i64 k ∧ Hid (x ∉ xs.take k)) (fun i => n - (intOf i).toNat)
  case atStart => exact ⟨0, Nat.zero_le _, rfl, by simp [Hid]⟩
  case round =>
    obtain ⟨k, hk, rfl, ht⟩ := hrel
    by_cases hlt : k < n
    · obtain ⟨ab, ao, y, rfl, hy, HY⟩ := ha.at (i := k) (by rw [HN.out]; exact hlt)
      by_cases hxy : y = x
      · have hm : Hid (x ∈ xs) := by subst hxy; exact List.mem_of_getElem? HY.out
        obtain rfl : b = true := by rw [hb.out]; exact decide_eq_true hm.out
        subst hxy
        go_wp2
        go_ret
        exact ⟨rfl, rfl⟩
      · have ht' : Hid (x ∉ xs.take (k + 1)) := by
          show x ∉ xs.take (k + 1)
          rw [mem_take_succ HY.out]; rintro (h | h)
          · exact ht.out h
          · exact hxy h.symm
        go_wp2
        go_round
        case rel => exact ⟨k + 1, by omega, by go_num, ht'⟩
        case measure => simp [intOf]; omega
    · have hm : Hid (x ∉ xs) := by
        have := ht.out
        rwa [List.take_of_length_le (by rw [HN.out]; omega)] at this
      obtain rfl : b = false := by rw [hb.out]; exact decide_eq_false hm.out
      go_wp2
      go_ret
      exact ⟨rfl, rfl⟩

set_option maxHeartbeats 400000 in
theorem specIsPerm_any (a : Option Addr) (n c : Nat) (xs : List Int) (b : Bool) (w : World) (ha : Ints w a xs) (hn : xs.length = n) (_hnb : n ≤ 2097152) (hnc : n ≤ c) (hb : Hid (b = decide (Perm8 xs))) :
    Calls Try.prog 53 #[.slice a n c] w fun e w' => e = .returned (.bool b) ∧ Quiet w w' := by
  have HN := Lib.hid hn; clear hn
  by_cases h8 : n ≤ 8
  · go_enter Try.func53, Try.ntmps53
    go_wp2
    go_loopw [3] (fun i wr => ∃ k : Nat, k ≤ n ∧ i = .int .i64 k ∧ Hid (Good n xs k) ∧ Quiet w wr) (fun i _ => n - (intOf i).toNat)
    case atStart => exact ⟨0, Nat.zero_le _, rfl, Good.zero _ _, Quiet.refl _⟩
    case round =>
      obtain ⟨k, hk, rfl, ht, hq⟩ := hrel
      have ha' := ha.quiet hq
      by_cases hlt : k < n
      · obtain ⟨ab, ao, y, rfl, hy, HY⟩ := ha'.at (i := k) (by rw [HN.out]; exact hlt)
        by_cases hr : 1 ≤ y ∧ y ≤ (n : Int)
        · by_cases hm : y ∈ xs.take k
          · obtain rfl : b = false := by
              rw [hb.out]; exact decide_eq_false fun h => not_perm_twice HY.out hm h.2
            have HR := Lib.hid hr; clear hr
            have HM := Lib.hid hm; clear hm
            go_wp2_with fail
            go_quiet ((first | (go_at_call 73; exact Calls.quiet_of_same (l1In_any _ _ _ true (decide_eq_true HR.out).symm _)) | (go_at_call 100; exact Calls.quiet_of_same (l2Has_any _ k _ (xs.take k) _ true _ ((ha'.take k).drewN _) (by rw [List.length_take, HN.out]; omega) (by omega) (decide_eq_true HM.out).symm))))
            go_wp2
            go_ret
            exact ⟨rfl, hq.drewN _⟩
          · have ht' : Hid (Good n xs (k + 1)) := ht.out.succ HY.out hr.1 hr.2 hm
            have HR := Lib.hid hr; clear hr
            have HM := Lib.hid hm; clear hm
            go_wp2_with fail
            go_quiet ((first | (go_at_call 73; exact Calls.quiet_of_same (l1In_any _ _ _ true (decide_eq_true HR.out).symm _)) | (go_at_call 100; exact Calls.quiet_of_same (l2Has_any _ k _ (xs.take k) _ false _ ((ha'.take k).drewN _) (by rw [List.length_take, HN.out]; omega) (by omega) (decide_eq_false HM.out).symm))))
            go_wp2
            go_roundw
            case rel => exact ⟨k + 1, by omega, by go_num, ht', hq.drewN _⟩
            case measure => simp [intOf]; omega
        · obtain rfl : b = false := by
            rw [hb.out]; exact decide_eq_false fun h => not_perm_range HN.out HY.out hr h.2
          have HR := Lib.hid hr; clear hr
          go_wp2_with fail
          go_quiet ((go_at_call 73; exact Calls.quiet_of_same (l1In_any _ _ _ false (decide_eq_false HR.out).symm _)))
          go_wp2
          go_ret
          exact ⟨rfl, hq.drewN _⟩
      · obtain rfl : b = true := by
          rw [hb.out]; exact decide_eq_true ⟨by rw [HN.out]; exact h8, ht.out.full (by omega) HN.out⟩
        go_wp2
        go_ret
        exact ⟨ret_bool (by simp; omega), hq⟩
  · obtain rfl : b = false := by
      rw [hb.out]; exact decide_eq_false fun h => h8 (by rw [← HN.out]; exact h.1)
    go_enter Try.func53, Try.ntmps53
    go_wp2
    go_loop [3] (fun i => i = .int .i64 0) (fun _ => 0)
    case atStart => rfl
    case round =>
      obtain rfl := hrel
      go_wp2
      go_ret
      exact ⟨ret_bool (by simp; omega), Quiet.refl _⟩

/-- What 'seen' holds after the first k numbers. -/
def seenOf (n : Nat) (xs : List Int) (k : Nat) : List Value := (List.range (n + 1)).map fun (v : Nat) => .bool (decide ((v : Int) ∈ xs.take k))
theorem seenOf_zero (n : Nat) (xs : List Int) : seenOf n xs 0 = List.replicate (n + 1) (.bool false) := by
  apply List.ext_getElem?
  intro i
  by_cases hi : i < n + 1 <;> simp [seenOf, hi]
theorem seenOf_get {n k v : Nat} {xs : List Int} (hv : v ≤ n) : (seenOf n xs k)[v]? = some (.bool (decide ((v : Int) ∈ xs.take k))) := by
  simp [seenOf, show v < n + 1 by omega]
theorem seenOf_succ {n k v : Nat} {xs : List Int} (hx : xs[k]? = some (v : Int)) : (seenOf n xs k).set v (.bool true) = seenOf n xs (k + 1) := by
  apply List.ext_getElem?
  intro i
  rw [List.getElem?_set]
  by_cases hi : i < n + 1
  · by_cases e : v = i
    · subst e; simp [seenOf, hi, mem_take_succ hx]
    · have e' : ¬ ((i : Int) = (v : Int)) := by omega
      simp only [if_neg e]
      simp [seenOf, hi, mem_take_succ hx, e']
  · by_cases e : v = i
    · subst e; simp [seenOf, hi]
    · simp [seenOf, hi, e]

set_option maxHeartbeats 400000 in
theorem isPerm_any (a : Option Addr) (n c : Nat) (xs : List Int) (b : Bool) (w : World) (ha : Ints w a xs) (hn : xs.length = n) (_hnb : n ≤ 2097152) (hb : Hid (b = decide (IsPermL xs))) :
    Calls Try.prog 106 #[.slice a n c] w fun e w' => e = .returned (.bool b) ∧ Below w.heap.size w w' := by
  have HN := Lib.hid hn; clear hn
  go_enter Try.func106, Try.ntmps106
  go_wp2_with (at_make; refine wpList_mk1 rfl _ _ 98 rfl 4 (.bool false) 1 Try.underlying98 infoBool rfl _ _ (n + 1) rfl rfl (by omega) (by omega) ?_)
  intro w1 h1 hb1
  rw [← seenOf_zero n xs] at h1
  go_wp2
  go_loopw [12] (fun i wr => ∃ k : Nat, k ≤ n ∧ i = .int .i64 k ∧ Hid (Good n xs k) ∧ wr.ownsRow w.heap.size 4 1 (.slice (some ⟨w.heap.size, 0, none⟩) (n + 1) (n + 1)) (n + 1) (seenOf n xs k) ∧ Below w.heap.size w wr) (fun i _ => n - (intOf i).toNat)
  case atStart => exact ⟨0, Nat.zero_le _, rfl, Good.zero _ _, h1, hb1⟩
  case round =>
    clear h1 hb1
    obtain ⟨k, hk, rfl, ht, ho, hbl⟩ := hrel
    by_cases hlt : k < n
    · obtain ⟨ab, ao, y, rfl, hy, HY⟩ := (ha.below hbl).at (i := k) (by rw [HN.out]; exact hlt)
      by_cases hr : 1 ≤ y ∧ y ≤ (n : Int)
      · obtain ⟨v, rfl⟩ : ∃ v : Nat, y = (v : Int) := ⟨y.toNat, by omega⟩
        obtain ⟨hr1, hr2⟩ := hr
        have hv1 : 1 ≤ v := by omega
        have hv2 : v ≤ n := by omega
        clear hr1 hr2
        have hc := ho.cellAt v (by omega)
        rw [seenOf_get hv2] at hc
        have hf := ho.frozenAt v
        by_cases hm : (v : Int) ∈ xs.take k
        · obtain rfl : b = false := by
            rw [hb.out]; exact decide_eq_false (not_perm_twice HY.out hm)
          rw [decide_eq_true hm] at hc
          clear hm
          go_wp2
          go_ret
          exact ⟨rfl, hbl⟩
        · have ht' : Hid (Good n xs (k + 1)) := ht.out.succ HY.out (by omega) (by omega) hm
          rw [decide_eq_false hm] at hc
          clear hm
          go_wp2
          go_roundw
          case rel =>
            obtain ⟨h2, h3⟩ := ho.stored v (.bool true)
            rw [seenOf_succ HY.out] at h2
            exact ⟨k + 1, by omega, by go_num, ht', h2, hbl.trans (grownBy_below h3 hbl.size (by simp))⟩
          case measure => simp [intOf]; omega
      · obtain rfl : b = false := by
          rw [hb.out]; exact decide_eq_false (not_perm_range HN.out HY.out hr)
        by_cases h1 : y < 1
        · clear hr
          go_wp2
          go_ret
          exact ⟨rfl, hbl⟩
        · have h2 : (n : Int) < y := by omega
          clear hr
          go_wp2
          go_ret
          exact ⟨rfl, hbl⟩
    · obtain rfl : b = true := by
        rw [hb.out]; exact decide_eq_true (ht.out.full (by omega) HN.out)
      go_wp2
      go_ret
      exact ⟨rfl, hbl⟩

set_option maxHeartbeats 400000 in
theorem IsPerm_any (a : Option Addr) (n c : Nat) (xs : List Int) (b : Bool) (w : World) (ha : Ints w a xs) (hn : xs.length = n) (_hnb : n ≤ 2097152) (hb : Hid (b = decide (Perm8 xs))) :
    Calls Try.prog 62 #[.slice a n c] w fun e w' => e = .returned (.bool b) ∧ Below w.heap.size w w' := by
  by_cases h8 : n ≤ 8
  · have hb' : Hid (b = decide (IsPermL xs)) := by
      show b = _
      rw [hb.out]; simp only [Perm8, hn, h8, true_and]
    go_enter Try.func62, Try.ntmps62
    go_wp2_with (go_at_call 106; refine (isPerm_any _ _ _ xs b _ ha hn (by omega) hb').mono ?_; rintro e w' ⟨rfl, hbl⟩)
    go_ret
    exact ⟨rfl, hbl⟩
  · obtain rfl : b = false := by
      rw [hb.out]; exact decide_eq_false fun h => h8 (by rw [← hn]; exact h.1)
    go_enter Try.func62, Try.ntmps62
    go_wp2
    go_ret
    exact ⟨ret_bool (by simp), Below.refl _ _⟩

theorem spec_IsPerm (a : Option Addr) (n c : Nat) (xs : List Int) (w : World) (h : SlI w a n c xs) :
    Calls Try.prog 53 #[.slice a n c] w (RetV w (.bool (decide (Perm8 xs)))) :=
  (specIsPerm_any a n c xs _ w h.1 h.2.1 h.2.2.1 h.2.2.2.1 rfl).mono fun _ _ => retV_quiet
theorem impl_IsPerm (a : Option Addr) (n c : Nat) (xs : List Int) (w : World) (h : SlI w a n c xs) :
    Calls Try.prog 62 #[.slice a n c] w (RetV w (.bool (decide (Perm8 xs)))) :=
  IsPerm_any a n c xs _ w h.1 h.2.1 h.2.2.1 rfl
end Go.Proofs.Ytmojniiimondfaa
