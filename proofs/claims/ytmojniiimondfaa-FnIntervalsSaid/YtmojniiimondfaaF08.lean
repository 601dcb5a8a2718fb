/- The walks of the pattern of a list, of the program and of the reference; PatternOf. No condition but lengths. -/
import Derived.Test.YtmojniiimondfaaF02
namespace Go.Proofs.Ytmojniiimondfaa
open Go.RowKit

/-- 1 + how many of ys are less than x -/
def rk (ys : List Int) (x : Int) : Int := 1 + ((ys.countP fun y => decide (y < x) : Nat) : Int)
/-- The pattern of a list. -/
def pat (xs : List Int) : List Int := xs.map (rk xs)
theorem length_pat (xs : List Int) : (pat xs).length = xs.length := by simp [pat]
theorem rk_zero (ys : List Int) (x : Int) : rk (ys.take 0) x = 1 := by simp [rk]
theorem rk_succ {ys : List Int} {k : Nat} {x y : Int} (h : ys[k]? = some y) : rk (ys.take (k + 1)) x = rk (ys.take k) x + (if y < x then 1 else 0) := by
  unfold rk; rw [take_snoc h, List.countP_append]
  by_cases hc : y < x <;> simp [hc] <;> omega
theorem rk_bd (ys : List Int) (x : Int) (n : Nat) (hn : ys.length = n) : 1 ≤ rk ys x ∧ rk ys x ≤ 1 + (n : Int) := by
  have := List.countP_le_length (l := ys) (p := fun y => decide (y < x))
  unfold rk; omega
theorem rk_bd_take (ys : List Int) (x : Int) (n k : Nat) (hn : ys.length = n) : 1 ≤ rk (ys.take k) x ∧ rk (ys.take k) x ≤ 1 + (n : Int) := by
  have := rk_bd (ys.take k) x _ rfl
  have h2 : (ys.take k).length ≤ n := by rw [List.length_take]; omega
  omega

set_option maxHeartbeats 400000 in
theorem l1Bit_any (b : Bool) (w : World) :
    Calls Try.prog 68 #[.bool b] w fun e w' => e = .returned (.int .i64 (if b then 1 else 0)) ∧ w' = w := by
  cases b
  all_goals
    go_enter Try.func68, Try.ntmps68
    go_wp2
    go_ret
    exact ⟨rfl, rfl⟩

set_option maxHeartbeats 1000000 in
theorem l2Pattern_any (a : Option Addr) (n c : Nat) (xs : List Int) (w : World) (h : SlI w a n c xs) :
    Calls Try.prog 94 #[.slice a n c] w (RetI w (pat xs)) := by
  obtain ⟨ha, hn, hnb, _⟩ := h
  have HN := Lib.hid hn; clear hn
  go_enter Try.func94, Try.ntmps94
  go_wp2
  go_loopw [3, 4, 5, 6] (fun v i _ _ wr => ∃ (k c : Nat) (a : Option Addr), k ≤ n ∧ i = .int .i64 k ∧ v = .slice a k c ∧ OwnI wr w.heap.size a k c ((pat xs).take k) ∧ Below w.heap.size w wr) (fun _ i _ _ _ => n - (intOf i).toNat)
  case atStart => exact ⟨0, 0, _, Nat.zero_le _, rfl, rfl, OwnI.lit0 w, below_alloc _ _⟩
  case round =>
    obtain ⟨k, c1, a1, hk, rfl, rfl, ho, hb⟩ := hrel
    by_cases hlt : k < n
    · obtain ⟨ab, ao, x, rfl, hx, HX⟩ := (ha.below hb).at (i := k) (by rw [HN.out]; exact hlt)
      obtain ⟨wo, rfl⟩ : ∃ wo : World, wo = wr := ⟨_, rfl⟩
      have ha' := ha.below hb
      go_wp2
      go_loopw [5, 6] (fun v j wr => ∃ m : Nat, m ≤ n ∧ j = .int .i64 m ∧ v = .int .i64 (rk (xs.take m) x) ∧ Quiet wo wr) (fun _ j _ => n - (intOf j).toNat)
      case atStart => exact ⟨0, Nat.zero_le _, rfl, by rw [rk_zero], Quiet.refl _⟩
      case round =>
        obtain ⟨m, hm, rfl, rfl, hq⟩ := hrel
        have b1 := rk_bd_take xs x n m HN.out
        obtain ⟨r, hr⟩ : ∃ r, r = rk (xs.take m) x := ⟨_, rfl⟩
        rw [← hr] at b1 ⊢
        have HR := Lib.hid hr; clear hr
        obtain ⟨b11, b12⟩ := b1
        by_cases hlm : m < n
        · obtain ⟨y, hy, HY⟩ := (ha'.quiet hq).cell (i := m) (by rw [HN.out]; exact hlm)
          obtain ⟨x', hx', HX'⟩ := (ha'.quiet hq).cell (i := k) (by rw [HN.out]; exact hlt)
          obtain rfl : x' = x := by have h1 := HX.out; have h2 := HX'.out; rw [h1] at h2; exact (Option.some.inj h2).symm
          have hs0 : Hid (rk (xs.take (m + 1)) x' = r + (if y < x' then 1 else 0)) := by show _ = _; rw [HR.out]; exact rk_succ HY.out
          by_cases hyx : y < x'
          · have hs : Hid (rk (xs.take (m + 1)) x' = r + 1) := by show _ = _; rw [hs0.out, if_pos hyx]
            go_wp2
            go_quiet ((go_at_call 68; exact Calls.quiet_of_same (l1Bit_any _ _)))
            go_wp2
            go_roundw
            case rel => exact ⟨m + 1, by omega, by go_num, by rw [hs.out], hq.drewN _⟩
            case measure => simp [intOf]; omega
          · have hs : Hid (rk (xs.take (m + 1)) x' = r) := by show _ = _; rw [hs0.out, if_neg hyx]; omega
            go_wp2
            go_quiet ((go_at_call 68; exact Calls.quiet_of_same (l1Bit_any _ _)))
            go_wp2
            go_roundw
            case rel => exact ⟨m + 1, by omega, by go_num, by rw [hs.out], hq.drewN _⟩
            case measure => simp [intOf]; omega
        · obtain rfl : m = n := by omega
          have e : (pat xs)[k]? = some r := by
            have e1 : xs.take m = xs := List.take_of_length_le (by rw [HN.out]; exact Nat.le_refl _)
            have e2 := HR.out
            rw [e1] at e2
            rw [e2]; simp [pat, HX.out]
          have E := Lib.hid e; clear e
          have ho' := ho.quiet hq
          have hb' := hb.trans (hq.below w.heap.size)
          go_wp2_with (at_builtin; refine wpList_appI rfl _ _ rfl w.heap.size _ _ _ _ rfl ho' _ rfl (by omega) hb'.size ?_)
          intro a' c' w1 h1 h3
          rw [← take_snoc E.out] at h1
          go_wp2
          go_roundw
          case rel => exact ⟨k + 1, c', a', by omega, by go_num, rfl, h1, hb'.trans h3⟩
          case measure => simp [intOf]; omega
    · have : k = n := by omega
      subst this
      rw [List.take_of_length_le (by rw [length_pat, HN.out]; exact Nat.le_refl _)] at ho
      go_wp2
      go_ret
      exact ⟨_, _, _, rfl, ho, hb⟩

set_option maxHeartbeats 1000000 in
theorem pattern_any (a : Option Addr) (n c : Nat) (xs : List Int) (w : World) (h : SlI w a n c xs) :
    Calls Try.prog 123 #[.slice a n c] w (RetI w (pat xs)) := by
  obtain ⟨ha, hn, hnb, _⟩ := h
  have HN := Lib.hid hn; clear hn
  go_enter Try.func123, Try.ntmps123
  go_wp2
  go_loopw [3, 12] (fun v i wr => ∃ (k c : Nat) (a : Option Addr), k ≤ n ∧ i = .int .i64 k ∧ v = .slice a k c ∧ OwnI wr w.heap.size a k c ((pat xs).take k) ∧ Below w.heap.size w wr) (fun _ i _ => n - (intOf i).toNat)
  case atStart => exact ⟨0, 0, _, Nat.zero_le _, rfl, rfl, OwnI.lit0 w, below_alloc _ _⟩
  case round =>
    obtain ⟨k, c1, a1, hk, rfl, rfl, ho, hb⟩ := hrel
    by_cases hlt : k < n
    · obtain ⟨ab, ao, x, rfl, hx, HX⟩ := (ha.below hb).at (i := k) (by rw [HN.out]; exact hlt)
      have ha' := ha.below hb
      go_wp2
      go_loop [6, 18] (fun v j => ∃ m : Nat, m ≤ n ∧ j = .int .i64 m ∧ v = .int .i64 (rk (xs.take m) x)) (fun _ j => n - (intOf j).toNat)
      case atStart => exact ⟨0, Nat.zero_le _, rfl, by rw [rk_zero]⟩
      case round =>
        obtain ⟨m, hm, rfl, rfl⟩ := hrel
        have b1 := rk_bd_take xs x n m HN.out
        obtain ⟨r, hr⟩ : ∃ r, r = rk (xs.take m) x := ⟨_, rfl⟩
        rw [← hr] at b1 ⊢
        have HR := Lib.hid hr; clear hr
        obtain ⟨b11, b12⟩ := b1
        by_cases hlm : m < n
        · obtain ⟨y, hy, HY⟩ := ha'.cell (i := m) (by rw [HN.out]; exact hlm)
          have hs0 : Hid (rk (xs.take (m + 1)) x = r + (if y < x then 1 else 0)) := by show _ = _; rw [HR.out]; exact rk_succ HY.out
          by_cases hyx : y < x
          · have hs : Hid (rk (xs.take (m + 1)) x = r + 1) := by show _ = _; rw [hs0.out, if_pos hyx]
            go_wp2
            go_round
            case rel => exact ⟨m + 1, by omega, by go_num, by rw [hs.out]⟩
            case measure => simp [intOf]; omega
          · have hs : Hid (rk (xs.take (m + 1)) x = r) := by show _ = _; rw [hs0.out, if_neg hyx]; omega
            go_wp2
            go_round
            case rel => exact ⟨m + 1, by omega, by go_num, by rw [hs.out]⟩
            case measure => simp [intOf]; omega
        · obtain rfl : m = n := by omega
          have e : (pat xs)[k]? = some r := by
            have e1 : xs.take m = xs := List.take_of_length_le (by rw [HN.out]; exact Nat.le_refl _)
            have e2 := HR.out
            rw [e1] at e2
            rw [e2]; simp [pat, HX.out]
          have E := Lib.hid e; clear e
          go_wp2_with (at_builtin; refine wpList_appI rfl _ _ rfl w.heap.size _ _ _ _ rfl ho _ rfl (by omega) hb.size ?_)
          intro a' c' w1 h1 h3
          rw [← take_snoc E.out] at h1
          go_wp2
          go_roundw
          case rel => exact ⟨k + 1, c', a', by omega, by go_num, rfl, h1, hb.trans h3⟩
          case measure => simp [intOf]; omega
    · have : k = n := by omega
      subst this
      rw [List.take_of_length_le (by rw [length_pat, HN.out]; exact Nat.le_refl _)] at ho
      go_wp2
      go_ret
      exact ⟨_, _, _, rfl, ho, hb⟩
end Go.Proofs.Ytmojniiimondfaa
