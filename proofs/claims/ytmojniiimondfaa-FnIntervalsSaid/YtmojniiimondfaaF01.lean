/- The walks of the laws' own helpers on slices of integers: copy, compare, mark, look at the marks. Conditions: the lengths are at most 2^21. -/
import Derived.Test.YtmojniiimondfaaLib
namespace Go.Proofs.Ytmojniiimondfaa
open Go.RowKit

theorem take_eq_succ {α : Type} {xs ys : List α} {k : Nat} {x y : α} (h : xs.take k = ys.take k) (hx : xs[k]? = some x) (hy : ys[k]? = some y) (hxy : x = y) : xs.take (k + 1) = ys.take (k + 1) := by
  rw [List.take_add_one, List.take_add_one, h, hx, hy, hxy]

set_option maxHeartbeats 400000 in
theorem eqIntS_any (a b : Option Addr) (n m c d : Nat) (xs ys : List Int) (w : World) (ha : Ints w a xs) (hb : Ints w b ys) (hn : xs.length = n) (hm : ys.length = m) (_hnb : n ≤ 2097152) (_hmb : m ≤ 2097152) :
    Calls Try.prog 17 #[.slice a n c, .slice b m d] w fun e w' => e = .returned (.bool (decide (xs = ys))) ∧ Quiet w w' := by
  have HN := Lib.hid hn; clear hn
  have HM := Lib.hid hm; clear hm
  by_cases hnm : n = m
  · subst hnm
    go_enter Try.func17, Try.ntmps17
    go_wp2
    go_loopw [5] (fun i wr => ∃ k : Nat, k ≤ n ∧ i = .int .i64 k ∧ Hid (xs.take k = ys.take k) ∧ ∃ q, wr = w.drewN q) (fun i _ => n - (intOf i).toNat)
    case atStart => exact ⟨0, Nat.zero_le _, rfl, by simp [Hid], 0, rfl⟩
    case round =>
      obtain ⟨k, hk, rfl, ht, q, rfl⟩ := hrel
      by_cases hlt : k < n
      · obtain ⟨ab, ao, x, rfl, hx, HX⟩ := ha.at (i := k) (by rw [HN.out]; exact hlt)
        obtain ⟨bb, bo, y, rfl, hy, HY⟩ := hb.at (i := k) (by rw [HM.out]; exact hlt)
        go_wp2
        go_quiet (fail)
        by_cases hxy : x = y
        · have ht' : Hid (xs.take (k + 1) = ys.take (k + 1)) := take_eq_succ ht.out HX.out HY.out hxy
          go_wp2
          go_roundw
          case rel => exact ⟨k + 1, by omega, by go_num, ht', _, rfl⟩
          case measure => simp [intOf]; omega
        · have hf : Hid (xs ≠ ys) := fun h => hxy (by have h1 := HX.out; have h2 := HY.out; rw [h] at h1; rw [h1] at h2; exact Option.some.inj h2)
          go_wp2
          go_ret
          exact ⟨ret_bool (decide_eq_false hf.out).symm, ((Quiet.refl _).drewN _).drewN _⟩
      · have hf : Hid (xs = ys) := by
          have e1 := HN.out; have e2 := HM.out; have e3 := ht.out
          have : k = n := by omega
          subst this
          rwa [List.take_of_length_le (by omega), List.take_of_length_le (by omega)] at e3
        go_wp2
        go_ret
        exact ⟨ret_bool (decide_eq_true hf.out).symm, (Quiet.refl _).drewN _⟩
  · have hf : Hid (xs ≠ ys) := fun h => hnm (by rw [← HN.out, ← HM.out, h])
    go_enter Try.func17, Try.ntmps17
    go_wp2
    go_ret
    exact ⟨ret_bool (decide_eq_false hf.out).symm, Quiet.refl _⟩

set_option maxHeartbeats 400000 in
theorem toIntS_any (a : Option Addr) (n c : Nat) (xs : List Int) (w : World) (ha : Ints w a xs) (hn : xs.length = n) (hnb : n ≤ 2097152) :
    Calls Try.prog 15 #[.slice a n c] w (RetI w xs) := by
  have HN := Lib.hid hn; clear hn
  go_enter Try.func15, Try.ntmps15
  go_wp2_with (at_make; refine wpList_mk1 rfl _ _ 28 rfl 3 (.int .i64 0) 8 Try.underlying28 infoInt rfl _ _ n rfl rfl (by omega) (by omega) ?_)
  intro w1 h1 hb1
  go_wp2
  go_loopw [4] (fun i wr => ∃ k : Nat, k ≤ n ∧ i = .int .i64 k ∧ OwnI wr w.heap.size (some ⟨w.heap.size, 0, none⟩) n n (xs.take k ++ List.replicate (n - k) 0) ∧ Below w.heap.size w wr) (fun i _ => n - (intOf i).toNat)
  case atStart => exact ⟨0, Nat.zero_le _, rfl, ⟨by simp, by simpa using h1⟩, hb1⟩
  case round =>
    obtain ⟨k, hk, rfl, ho, hb⟩ := hrel
    by_cases hlt : k < n
    · obtain ⟨ab, ao, x, rfl, hx, HX⟩ := (ha.below hb).at (i := k) (by rw [HN.out]; exact hlt)
      have hf := ho.frozen k
      obtain ⟨y, hy, _⟩ := ho.cell hlt
      go_wp2
      go_roundw
      case rel =>
        obtain ⟨_, h2, h3⟩ := ho.set k x
        refine ⟨k + 1, by omega, by go_num, ?_, hb.trans (grownBy_below h3 hb.size (by simp))⟩
        have e : (xs.take k ++ List.replicate (n - k) 0).set k x = xs.take (k + 1) ++ List.replicate (n - (k + 1)) 0 := by
          have hl : (xs.take k).length = k := by rw [List.length_take, HN.out, Nat.min_eq_left hk]
          rw [take_snoc HX.out, List.set_append_right _ _ (by omega), hl, Nat.sub_self, show n - k = (n - (k + 1)) + 1 by omega, List.replicate_succ]
          simp
        rw [e] at h2; exact h2
      case measure => simp [intOf]; omega
    · have : k = n := by omega
      subst this
      have ho' : OwnI wr w.heap.size (some ⟨w.heap.size, 0, none⟩) k k xs := by
        have e : xs.take k ++ List.replicate (k - k) 0 = xs := by
          rw [Nat.sub_self, List.take_of_length_le (by rw [HN.out]; exact Nat.le_refl _)]; simp
        rw [e] at ho; exact ho
      go_wp2
      go_ret
      exact ⟨_, _, _, rfl, ho', hb⟩

set_option maxHeartbeats 400000 in
/-- The marks k, k+1, .. are written into the call's own slice. -/
theorem markIntS_any (a : Option Addr) (n c B : Nat) (k0 : Int) (xs : List Int) (w : World) (ha : OwnI w B a n c xs) (_hnb : n ≤ 2097152) (_hk0 : 0 ≤ k0) (_hk1 : k0 ≤ 4294967296) :
    Calls Try.prog 58 #[.slice a n c, .int .i64 k0] w fun e w' => e = .returned (.int .i64 (k0 + n)) ∧ OwnI w' B a n c ((List.range n).map fun (i : Nat) => k0 + (i : Int)) ∧ w.grownBy w' (Value.slice a n c).ownBlock := by
  go_enter Try.func58, Try.ntmps58
  go_wp2
  go_loopw [1, 5] (fun kv i wr => ∃ k : Nat, k ≤ n ∧ i = .int .i64 k ∧ kv = .int .i64 (k0 + (k : Int)) ∧ OwnI wr B a n c (((List.range k).map fun (i : Nat) => k0 + (i : Int)) ++ xs.drop k) ∧ w.grownBy wr (Value.slice a n c).ownBlock) (fun _ i _ => n - (intOf i).toNat)
  case atStart => exact ⟨0, Nat.zero_le _, rfl, by go_num, by simpa using ha, World.grownBy.refl _ _⟩
  case round =>
    obtain ⟨k, hk, rfl, rfl, ho, hg⟩ := hrel
    by_cases hlt : k < n
    · obtain ⟨g, rfl, hgB, hgs⟩ := ho.head (by omega)
      have hf := ho.frozen k
      obtain ⟨y, hy, _⟩ := ho.cell hlt
      go_wp2
      go_roundw
      case rel =>
        obtain ⟨_, h2, h3⟩ := ho.set k (k0 + (k : Int))
        refine ⟨k + 1, by omega, by go_num, by go_num, ?_, grownBy_trans hg h3⟩
        have hl2 : k < xs.length := by have := ha.1; omega
        have e : (((List.range k).map fun (i : Nat) => k0 + (i : Int)) ++ xs.drop k).set k (k0 + (k : Int)) = ((List.range (k + 1)).map fun (i : Nat) => k0 + (i : Int)) ++ xs.drop (k + 1) := by
          rw [List.set_append_right _ _ (by simp), List.length_map, List.length_range, Nat.sub_self, List.drop_eq_getElem_cons hl2, List.set_cons_zero, List.range_succ]
          simp
        rw [e] at h2; exact h2
      case measure => simp [intOf]; omega
    · have : k = n := by omega
      subst this
      have ho' : OwnI wr B a k c ((List.range k).map fun (i : Nat) => k0 + (i : Int)) := by
        have e : xs.drop k = [] := List.drop_eq_nil_of_le (by rw [ha.1]; exact Nat.le_refl _)
        rw [e, List.append_nil] at ho; exact ho
      go_wp2
      go_ret
      exact ⟨rfl, ho', hg⟩

set_option maxHeartbeats 400000 in
/-- The marks are found again. -/
theorem heldIntS_any (a : Option Addr) (n c : Nat) (k0 : Int) (w : World) (ha : Ints w a ((List.range n).map fun (i : Nat) => k0 + (i : Int))) (_hnb : n ≤ 2097152) (_hk0 : 0 ≤ k0) (_hk1 : k0 ≤ 4294967296) :
    Calls Try.prog 59 #[.slice a n c, .int .i64 k0] w fun e w' => e = .returned (.int .i64 (k0 + n)) ∧ Quiet w w' := by
  go_enter Try.func59, Try.ntmps59
  go_wp2
  go_loop [1, 5] (fun kv i => ∃ k : Nat, k ≤ n ∧ i = .int .i64 k ∧ kv = .int .i64 (k0 + (k : Int))) (fun _ i => n - (intOf i).toNat)
  case atStart => exact ⟨0, Nat.zero_le _, rfl, by go_num⟩
  case round =>
    obtain ⟨k, hk, rfl, rfl⟩ := hrel
    by_cases hlt : k < n
    · obtain ⟨ab, ao, x, rfl, hx, HX⟩ := ha.at (i := k) (by simpa using hlt)
      obtain rfl : x = k0 + (k : Int) := by have := HX.out; simp [hlt] at this; omega
      go_wp2
      go_round
      case rel => exact ⟨k + 1, by omega, by go_num, by go_num⟩
      case measure => simp [intOf]; omega
    · have : k = n := by omega
      subst this
      go_wp2
      go_ret
      exact ⟨rfl, Quiet.refl _⟩

theorem eqIntS_same (a b : Option Addr) (n m c d : Nat) (xs : List Int) (w : World) (ha : SlI w a n c xs) (hb : SlI w b m d xs) :
    Calls Try.prog 17 #[.slice a n c, .slice b m d] w (RetV w (.bool true)) :=
  (eqIntS_any a b n m c d xs xs w ha.1 hb.1 ha.2.1 hb.2.1 ha.2.2.1 hb.2.2.1).mono fun _ _ ⟨h1, h2⟩ => ⟨by rw [h1]; simp, h2.below _⟩
theorem toIntS_sl (a : Option Addr) (n c : Nat) (xs : List Int) (w : World) (ha : SlI w a n c xs) :
    Calls Try.prog 15 #[.slice a n c] w (RetI w xs) := toIntS_any a n c xs w ha.1 ha.2.1 ha.2.2.1
/-- The marks' list. -/
def marks (k0 : Int) (n : Nat) : List Int := (List.range n).map fun (i : Nat) => k0 + (i : Int)
theorem markIntS_own (a : Option Addr) (n c lo hi : Nat) (k0 : Int) (xs : List Int) (w : World) (ha : OwnIn w lo hi a n c xs) (hnb : n ≤ 2097152) (hk0 : 0 ≤ k0) (hk1 : k0 ≤ 4294967296) :
    Calls Try.prog 58 #[.slice a n c, .int .i64 k0] w fun e w' => e = .returned (.int .i64 (k0 + n)) ∧ OwnIn w' lo hi a n c (marks k0 n) ∧ Out lo hi w w' :=
  (markIntS_any a n c lo k0 xs w ha.1 hnb hk0 hk1).mono fun _ _ ⟨h1, h2, h3⟩ => ⟨h1, ⟨h2, ha.2⟩, Out.ofGrown h3 ha.row⟩
theorem heldIntS_own (a : Option Addr) (n c lo hi : Nat) (k0 : Int) (w : World) (ha : OwnIn w lo hi a n c (marks k0 n)) (hnb : n ≤ 2097152) (hk0 : 0 ≤ k0) (hk1 : k0 ≤ 4294967296) :
    Calls Try.prog 59 #[.slice a n c, .int .i64 k0] w (RetV w (.int .i64 (k0 + n))) :=
  (heldIntS_any a n c k0 w ha.1.ints hnb hk0 hk1).mono fun _ _ ⟨h1, h2⟩ => ⟨h1, h2.below _⟩
end Go.Proofs.Ytmojniiimondfaa
