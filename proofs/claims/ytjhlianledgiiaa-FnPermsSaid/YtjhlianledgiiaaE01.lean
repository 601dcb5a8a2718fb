/- The comparisons of the laws: sameInts, sameLists, straight, hasList. No condition. -/
import Derived.Test.YtjhlianledgiiaaF05
import Derived.Test.YtjhlianledgiiaaII
namespace Go.Proofs.Ytjhlianledgiiaa
open Go.RowKit

set_option maxHeartbeats 400000 in
theorem sameIntsQ_any (a b : Option Addr) (n m c d : Nat) (xs ys : List Int) (w : World) (ha : Ints w a xs) (hb : Ints w b ys) (hn : xs.length = n) (hm : ys.length = m) (_hnb : n ≤ 2097152) (_hmb : m ≤ 2097152) :
    Calls Try.prog 30 #[.slice a n c, .slice b m d] w fun e w' => e = .returned (.bool (decide (xs = ys))) ∧ Quiet w w' := by
  have HN := Lib.hid hn; clear hn
  have HM := Lib.hid hm; clear hm
  by_cases hnm : n = m
  · subst hnm
    go_enter Try.func30, Try.ntmps30
    go_wp2
    go_loopw [5] (fun i wr => ∃ k : Nat, k ≤ n ∧ i = .int .i64 k ∧ Hid (xs.take k = ys.take k) ∧ ∃ q, wr = w.drewN q) (fun i _ => n - (intOf i).toNat)
    case atStart => exact ⟨0, Nat.zero_le _, rfl, by simp [Hid], 0, rfl⟩
    case round =>
      obtain ⟨k, hk, rfl, ht, q, rfl⟩ := hrel
      by_cases hlt : k < n
      · obtain ⟨ab, ao, x, rfl, hx, HX⟩ := ha.at (i := k) (by rw [HN.out]; exact hlt)
        obtain ⟨bb, bo, y, rfl, hy, HY⟩ := hb.at (i := k) (by rw [HM.out]; exact hlt)
        go_wp2
        go_quiet (fail)
        by_cases hxy : x = y
        · have ht' : Hid (xs.take (k + 1) = ys.take (k + 1)) := take_eq_succ ht.out HX.out HY.out hxy
          go_wp2
          go_roundw
          case rel => exact ⟨k + 1, by omega, by go_num, ht', _, rfl⟩
          case measure => simp [intOf]; omega
        · have hf : Hid (xs ≠ ys) := fun h => hxy (by have h1 := HX.out; have h2 := HY.out; rw [h] at h1; rw [h1] at h2; exact Option.some.inj h2)
          go_wp2
          go_ret
          exact ⟨ret_bool (decide_eq_false hf.out).symm, ((Quiet.refl _).drewN _).drewN _⟩
      · have hf : Hid (xs = ys) := by
          have e1 := HN.out; have e2 := HM.out; have e3 := ht.out
          have : k = n := by omega
          subst this
          rwa [List.take_of_length_le (by omega), List.take_of_length_le (by omega)] at e3
        go_wp2
        go_ret
        exact ⟨ret_bool (decide_eq_true hf.out).symm, (Quiet.refl _).drewN _⟩
  · have hf : Hid (xs ≠ ys) := fun h => hnm (by rw [← HN.out, ← HM.out, h])
    go_enter Try.func30, Try.ntmps30
    go_wp2
    go_ret
    exact ⟨ret_bool (decide_eq_false hf.out).symm, Quiet.refl _⟩

theorem sameInts_any (a b : Option Addr) (n m c d : Nat) (xs ys : List Int) (w : World) (ha : SlI w a n c xs) (hb : SlI w b m d ys) :
    Calls Try.prog 30 #[.slice a n c, .slice b m d] w (RetV w (.bool (decide (xs = ys)))) :=
  (sameIntsQ_any a b n m c d xs ys w ha.1 hb.1 ha.2.1 hb.2.1 ha.2.2.1 hb.2.2.1).mono fun _ _ h => retV_quiet h
theorem sameInts_same (a b : Option Addr) (n m c d : Nat) (xs : List Int) (w : World) (ha : SlI w a n c xs) (hb : SlI w b m d xs) :
    Calls Try.prog 30 #[.slice a n c, .slice b m d] w (RetV w (.bool true)) := by
  have h := sameInts_any a b n m c d xs xs w ha hb
  rwa [decide_eq_true rfl] at h

set_option maxHeartbeats 400000 in
theorem sameLists_same (a b : Option Addr) (n m c d : Nat) (xss : List (List Int)) (w : World) (ha : IIs w a n c xss) (hb : IIs w b m d xss) :
    Calls Try.prog 31 #[.slice a n c, .slice b m d] w (RetV w (.bool true)) := by
  obtain rfl : n = m := by rw [← ha.2.1, hb.2.1]
  have hnb := ha.2.2.1
  have Q0 : Calls Try.prog 31 #[.slice a n c, .slice b n d] w (fun e w' => e = .returned (.bool true) ∧ Quiet w w') := by
    go_enter Try.func31, Try.ntmps31
    go_wp2
    go_loopw [5] (fun i wr => ∃ k : Nat, k ≤ n ∧ i = .int .i64 k ∧ Quiet w wr) (fun i _ => n - (intOf i).toNat)
    case atStart => exact ⟨0, Nat.zero_le _, rfl, Quiet.refl _⟩
    case round =>
      obtain ⟨k, hk, rfl, hq⟩ := hrel
      by_cases hlt : k < n
      · obtain ⟨ab, ao, ra, rn, rc, xs, rfl, hx, hr, HX⟩ := (ha.quiet hq).at hlt
        obtain ⟨bb, bo, sa, sn, sc, ys, rfl, hy, hs, HY⟩ := (hb.quiet hq).at hlt
        obtain rfl : xs = ys := by have h1 := HX.out; have h2 := HY.out; rw [h1] at h2; exact Option.some.inj h2
        have c1 : ∀ q, Calls Try.prog 30 #[.slice ra rn rc, .slice sa sn sc] (wr.drewN q) (fun e w' => e = .returned (.bool true) ∧ ∃ m, w' = wr.drewN m) := fun q => (sameIntsQ_any ra sa rn sn rc sc xs xs (wr.drewN q) (hr.1.drewN q) (hs.1.drewN q) hr.2.1 hs.2.1 hr.2.2.1 hs.2.2.1).mono fun e w' h => ⟨by rw [h.1, decide_eq_true rfl], ((Quiet.refl wr).drewN q).trans h.2⟩
        clear hr hs
        go_wp2
        go_quiet ((go_at_call 30; exact c1 _))
        go_wp2
        go_roundw
        case rel => exact ⟨k + 1, by omega, by go_num, hq.drewN _⟩
        case measure => simp [intOf]; omega
      · go_wp2
        go_ret
        exact ⟨rfl, hq⟩
  exact Q0.mono fun e w' h => retV_quiet h

set_option maxHeartbeats 400000 in
theorem straight_any (a : Option Addr) (n c : Nat) (xs : List Int) (w : World) (ha : SlI w a n c xs) (hs : Hid (∀ (i : Nat) (x : Int), xs[i]? = some x → x = (i : Int) + 1)) :
    Calls Try.prog 68 #[.slice a n c] w (RetV w (.bool true)) := by
  have HN : Hid (xs.length = n) := ha.2.1
  have hnb := ha.2.2.1
  go_enter Try.func68, Try.ntmps68
  go_wp2
  go_loopw [3] (fun i wr => ∃ k : Nat, k ≤ n ∧ i = .int .i64 k ∧ Quiet w wr) (fun i _ => n - (intOf i).toNat)
  case atStart => exact ⟨0, Nat.zero_le _, rfl, Quiet.refl _⟩
  case round =>
    obtain ⟨k, hk, rfl, hq⟩ := hrel
    by_cases hlt : k < n
    · obtain ⟨ab, ao, x, rfl, hx, HX⟩ := (ha.quiet hq).1.at (i := k) (by rw [HN.out]; exact hlt)
      obtain rfl := hs.out k x HX.out
      go_wp2
      go_roundw
      case rel => exact ⟨k + 1, by omega, by go_num, hq⟩
      case measure => simp [intOf]; omega
    · go_wp2
      go_ret
      exact retV_quiet ⟨rfl, hq⟩

set_option maxHeartbeats 400000 in
theorem hasList_any (a : Option Addr) (n c : Nat) (xss : List (List Int)) (b : Option Addr) (m d : Nat) (p : List Int) (w : World) (ha : IIs w a n c xss) (hp : SlI w b m d p) (hm : Hid (p ∈ xss)) :
    Calls Try.prog 43 #[.slice a n c, .slice b m d] w (RetV w (.bool true)) := by
  have HN : Hid (xss.length = n) := ha.2.1
  have hnb := ha.2.2.1
  go_enter Try.func43, Try.ntmps43
  go_wp2
  go_loopw [5] (fun i wr => ∃ k : Nat, k ≤ n ∧ i = .int .i64 k ∧ Hid (p ∉ xss.take k) ∧ Quiet w wr) (fun i _ => n - (intOf i).toNat)
  case atStart => exact ⟨0, Nat.zero_le _, rfl, by simp [Hid], Quiet.refl _⟩
  case round =>
    obtain ⟨k, hk, rfl, HT, hq⟩ := hrel
    by_cases hlt : k < n
    · obtain ⟨ab, ao, ra, rn, rc, xs, rfl, hx, hr, HX⟩ := (ha.quiet hq).at hlt
      have hC := sameIntsQ_any ra b rn m rc d xs p wr hr.1 (hp.quiet hq).1 hr.2.1 hp.2.1 hr.2.2.1 hp.2.2.1
      clear hr
      by_cases he : xs = p
      · rw [decide_eq_true he] at hC
        go_wp2_with fail
        refine hC.mono ?_
        rintro e w1 ⟨rfl, hq1⟩
        have hqq : Below w.heap.size w w1 := (hq.below _).trans ((hq1.below _).mono (hq.below 0).size)
        clear hC
        go_wp2
        go_ret
        exact ⟨rfl, hqq⟩
      · rw [decide_eq_false he] at hC
        have HT' : Hid (p ∉ xss.take (k + 1)) := by
          show ¬ _
          rw [take_snoc HX.out, List.mem_append]
          rintro (h1 | h1)
          · exact HT.out h1
          · simp only [List.mem_singleton] at h1; exact he h1.symm
        go_wp2_with fail
        refine hC.mono ?_
        rintro e w1 ⟨rfl, hq1⟩
        have hqq : Quiet w w1 := hq.trans hq1
        clear hC
        go_wp2
        go_roundw
        case rel => exact ⟨k + 1, by omega, by go_num, HT', hqq⟩
        case measure => simp [intOf]; omega
    · exfalso
      obtain rfl : k = n := by omega
      refine HT.out ?_
      rw [List.take_of_length_le (by rw [HN.out]; exact Nat.le_refl _)]
      exact hm.out
end Go.Proofs.Ytjhlianledgiiaa
