/- The walks of sums and skew sums, of the program and of the reference. Conditions: lengths and numbers are small. -/
import Derived.Test.YtmojniiimondfaaF08
import Derived.Test.YtmojniiimondfaaF14
import Derived.Deep.RegionLaw
namespace Go.Proofs.Ytmojniiimondfaa
open Go.RowKit

/-- Numbers from -2^20 to 2^20. -/
def Sm (xs : List Int) : Prop := ∀ x ∈ xs, -1048576 ≤ x ∧ x ≤ 1048576
def raise (xs : List Int) (by_ : Int) : List Int := xs.map fun v => v + by_
theorem length_raise (xs : List Int) (b : Int) : (raise xs b).length = xs.length := by simp [raise]

set_option maxHeartbeats 400000 in
theorem raised_any (a : Option Addr) (n c : Nat) (xs : List Int) (d : Int) (w : World) (h : SlI w a n c xs) (hp : Hid (Sm xs)) (_hd1 : -1048576 ≤ d) (_hd2 : d ≤ 1048576) :
    Calls Try.prog 111 #[.slice a n c, .int .i64 d] w (RetI w (raise xs d)) := by
  obtain ⟨ha, hn, hnb, _⟩ := h
  have HN := Lib.hid hn; clear hn
  go_enter Try.func111, Try.ntmps111
  go_wp2
  go_loopw [5, 11] (fun v i wr => ∃ (k c : Nat) (a : Option Addr), k ≤ n ∧ i = .int .i64 k ∧ v = .slice a k c ∧ OwnI wr w.heap.size a k c ((raise xs d).take k) ∧ Below w.heap.size w wr) (fun _ i _ => n - (intOf i).toNat)
  case atStart => exact ⟨0, 0, _, Nat.zero_le _, rfl, rfl, OwnI.lit0 w, below_alloc _ _⟩
  case round =>
    obtain ⟨k, c1, a1, hk, rfl, rfl, ho, hb⟩ := hrel
    by_cases hlt : k < n
    · obtain ⟨bb, bo, x, rfl, hx, HX⟩ := (ha.below hb).at (i := k) (by rw [HN.out]; exact hlt)
      have hx0 := hp.out x (List.mem_of_getElem? HX.out)
      obtain ⟨hx1, hx2⟩ := hx0
      go_wp2_with (at_builtin; refine wpList_appI rfl _ _ rfl w.heap.size _ _ _ _ rfl ho _ rfl (by omega) hb.size ?_)
      intro a' c' w1 h1 h3
      have e : (raise xs d)[k]? = some (x + d) := by simp [raise, HX.out]
      rw [← take_snoc e] at h1
      clear e
      go_wp2
      go_roundw
      case rel => exact ⟨k + 1, c', a', by omega, by go_num, rfl, h1, hb.trans h3⟩
      case measure => simp [intOf]; omega
    · have : k = n := by omega
      subst this
      rw [List.take_of_length_le (by rw [length_raise, HN.out]; exact Nat.le_refl _)] at ho
      go_wp2
      go_ret
      exact ⟨_, _, _, rfl, ho, hb⟩

/-- The sum, or the skew sum. -/
def joinL (sk : Bool) (xs ys : List Int) : List Int := if sk then raise xs (ys.length : Int) ++ ys else xs ++ raise ys (xs.length : Int)
theorem length_joinL (sk : Bool) (xs ys : List Int) : (joinL sk xs ys).length = xs.length + ys.length := by
  cases sk <;> simp [joinL, length_raise]

theorem iis_two {w : World} {a b : Option Addr} {n m c d : Nat} {xs ys : List Int} (h : SlI w a n c xs) (hq : SlI w b m d ys) :
    IIs (w.alloc (.cells #[.slice a n c, .slice b m d] 28)) (some ⟨w.heap.size, 0, none⟩) 2 2 [xs, ys] := by
  have hb := below_alloc w (.cells #[.slice a n c, .slice b m d] 28)
  refine ⟨fun i zs hi => ?_, rfl, by omega, Nat.le_refl _⟩
  match i, hi with
  | 0, hi => simp at hi; subst hi; exact ⟨w.heap.size, 0, (a, n, c), rfl, by simp [sl3], h.below hb⟩
  | 1, hi => simp at hi; subst hi; exact ⟨w.heap.size, 0, (b, m, d), rfl, by simp [sl3], hq.below hb⟩

set_option maxHeartbeats 800000 in
theorem sum_any (a : Option Addr) (n c : Nat) (xs : List Int) (b : Option Addr) (m d : Nat) (ys : List Int) (sk : Bool) (w : World) (h : SlI w a n c xs) (hq : SlI w b m d ys) (hp : Hid (Sm xs)) (hp2 : Hid (Sm ys)) (hn : n ≤ 500000) (hm : m ≤ 500000) :
    Calls Try.prog 91 #[.slice a n c, .slice b m d, .bool sk] w (RetI w (joinL sk xs ys)) := by
  have HN : Hid (xs.length = n) := h.2.1
  have HM : Hid (ys.length = m) := hq.2.1
  cases sk with
  | true =>
    go_enter Try.func91, Try.ntmps91
    go_wp2_with fail
    refine (raised_any a n c xs (m : Int) _ h hp (by omega) (by omega)).mono ?_
    rintro e w1 ⟨a1, n1, c1, rfl, ho1, hb1⟩
    have hn1 : n1 ≤ 500000 := by have h1 := ho1.1; rw [length_raise] at h1; have h2 := HN.out; omega
    go_wp2_with fail
    refine (slicesConcat_any _ 2 2 [raise xs (m : Int), ys] _ (iis_two (ho1.sl (by omega)) (hq.below hb1)) ?_).mono ?_
    · show _ ≤ _
      have h1 := HN.out; have h2 := HM.out
      simp [length_raise]; omega
    rintro e w2 ⟨a2, n2, c2, rfl, ho2, hb2⟩
    have HE : Hid ([raise xs (m : Int), ys].flatten = joinL true xs ys) := by
      show _ = _; rw [← HM.out]; simp [joinL]
    have hb3 := hb1.alloc hb1.size (.cells #[.slice a1 n1 c1, .slice b m d] 28)
    go_wp2
    go_ret
    exact ⟨_, _, _, rfl, by rw [← HE.out]; exact ho2.mono hb3.size, hb3.trans (hb2.mono hb3.size)⟩
  | false =>
    go_enter Try.func91, Try.ntmps91
    go_wp2_with fail
    refine (raised_any b m d ys (n : Int) _ hq hp2 (by omega) (by omega)).mono ?_
    rintro e w1 ⟨a1, n1, c1, rfl, ho1, hb1⟩
    have hn1 : n1 ≤ 500000 := by have h1 := ho1.1; rw [length_raise] at h1; have h2 := HM.out; omega
    go_wp2_with fail
    refine (slicesConcat_any _ 2 2 [xs, raise ys (n : Int)] _ (iis_two (h.below hb1) (ho1.sl (by omega))) ?_).mono ?_
    · show _ ≤ _
      have h1 := HN.out; have h2 := HM.out
      simp [length_raise]; omega
    rintro e w2 ⟨a2, n2, c2, rfl, ho2, hb2⟩
    have HE : Hid ([xs, raise ys (n : Int)].flatten = joinL false xs ys) := by
      show _ = _; rw [← HN.out]; simp [joinL]
    have hb3 := hb1.alloc hb1.size (.cells #[.slice a n c, .slice a1 n1 c1] 28)
    go_wp2
    go_ret
    exact ⟨_, _, _, rfl, by rw [← HE.out]; exact ho2.mono hb3.size, hb3.trans (hb2.mono hb3.size)⟩

/-- 'append(out, y)' as a step of a region that draws its order. -/
theorem step_appI {ops : Array Oper} {o : Oper} {act : Act} {w : World} {K : Act → World → Prop} {Q : Exit → Act → World → Prop} {E : Prop} (hgd : o.guard = none) (s x : Operand)
    (ho : o.op = .call { callee := .builtin .append, args := #[s, x], argTypes := #[28, 28] })
    (B : Nat) (a : Option Addr) (n c : Nat) (xs : List Int) (hs : act.eval s = .slice a n c) (hown : OwnI w B a n c xs)
    (y : Int) (hx : act.eval x = .slice (some ⟨w.heap.size, 0, none⟩) 1 1) (hn : n < 4194304) (hB : B ≤ w.heap.size)
    (h : ∀ a' c' w', OwnI w' B a' (n + 1) c' (xs ++ [y]) → Below B w w' → K (act.put o.dst (.slice a' (n + 1) c')) w') :
    if Region.wanted o (yielded ops act.tmps) = true then Oper.wp Try.prog o act (w.alloc (.cells #[.int .i64 y] 3)) K Q else E := by
  have hw : Region.wanted o (yielded ops act.tmps) = true := by simp [Region.wanted, hgd]
  rw [if_pos hw]
  obtain ⟨i0, hi, hz0, hz1, hz2⟩ := info_parts infoInt
  refine wp_append_own (w.alloc (.cells #[.int .i64 y] 3)) s x 28 ho B 3 i0 (.int .i64 0) 1 8 Try.underlying28 hi hz0 hz1 hz2 rfl (by decide) _ n _ hs (hown.2.alloc _) ⟨w.heap.size, 0, none⟩ 1 1 [.int .i64 y] hx rfl ?_ ?_ ?_ ?_ ?_ ?_
  · intro j v hj
    match j, hj with
    | 0, hj => simp at hj; subst hj; simp [Addr.add]
  · intro v hv; simp at hv; subst hv; rfl
  · unfold maxLen; omega
  · omega
  · simp; omega
  · intro v' w' h1 h2 _
    obtain ⟨a', c', rfl⟩ := own_slice h1
    have h3 := grownBy_alloc_trans h2
    exact h a' c' w' ⟨by rw [List.length_append, hown.1]; rfl, by simpa using h1⟩ (grownBy_below h3 hB fun k hk => (hown.2.lt k hk).1)

/-! ### the reference's join -/
theorem joinL_left {sk : Bool} {xs ys : List Int} {k : Nat} {x : Int} (h : xs[k]? = some x) : (joinL sk xs ys)[k]? = some (x + (if sk then (ys.length : Int) else 0)) := by
  have hk := (List.getElem?_eq_some_iff.1 h).1
  cases sk
  · simp only [joinL, Bool.false_eq_true, if_false]; rw [List.getElem?_append_left hk, h]; simp
  · simp only [joinL, if_true]; rw [List.getElem?_append_left (by rw [length_raise]; exact hk)]; simp [raise, h]
theorem joinL_right {sk : Bool} {xs ys : List Int} {k : Nat} {y : Int} (h : ys[k]? = some y) : (joinL sk xs ys)[xs.length + k]? = some (y + (if sk then 0 else (xs.length : Int))) := by
  cases sk
  · simp only [joinL, Bool.false_eq_true, if_false]; rw [List.getElem?_append_right (by omega), Nat.add_sub_cancel_left]; simp [raise, h]
  · simp only [joinL, if_true]; rw [List.getElem?_append_right (by rw [length_raise]; omega), length_raise, Nat.add_sub_cancel_left, h]; simp

set_option maxHeartbeats 2000000 in
set_option maxRecDepth 100000 in
theorem l4Join_any (a : Option Addr) (n c : Nat) (xs : List Int) (b : Option Addr) (m d : Nat) (ys : List Int) (sk : Bool) (w : World) (h : SlI w a n c xs) (hq : SlI w b m d ys) (hp : Hid (Sm xs)) (hp2 : Hid (Sm ys)) (hn : n ≤ 500000) (hm : m ≤ 500000) :
    Calls Try.prog 89 #[.slice a n c, .slice b m d, .bool sk] w (RetI w (joinL sk xs ys)) := by
  have HN : Hid (xs.length = n) := h.2.1
  have HM : Hid (ys.length = m) := hq.2.1
  have ha := h.1
  have hbb := hq.1
  obtain ⟨u, hu⟩ : ∃ u : Int, u = (if sk then 1 else 0) := ⟨_, rfl⟩
  obtain ⟨v, hv⟩ : ∃ v : Int, v = (if !sk then 1 else 0) := ⟨_, rfl⟩
  have hu1 : 0 ≤ u * (m : Int) ∧ u * (m : Int) ≤ 500000 := by cases sk <;> simp at hu <;> subst hu <;> simp <;> omega
  have hv1 : 0 ≤ v * (n : Int) ∧ v * (n : Int) ≤ 500000 := by cases sk <;> simp at hv <;> subst hv <;> simp <;> omega
  have EU : Hid (u * (m : Int) = if sk then (ys.length : Int) else 0) := by show _ = _; rw [HM.out]; cases sk <;> simp at hu <;> subst hu <;> simp
  have EV : Hid (v * (n : Int) = if sk then 0 else (xs.length : Int)) := by show _ = _; rw [HN.out]; cases sk <;> simp at hv <;> subst hv <;> simp
  have hBu := fun w => l1Bit_any sk w
  rw [← hu] at hBu
  have hBv := fun w => l1Bit_any (!sk) w
  rw [← hv] at hBv
  have HBu := Lib.hid hBu; clear hBu
  have HBv := Lib.hid hBv; clear hBv
  clear hu hv
  obtain ⟨hu1, hu2⟩ := hu1
  obtain ⟨hv1, hv2⟩ := hv1
  go_enter Try.func89, Try.ntmps89
  go_wp2
  go_loopw [7, 8] (fun v i wr => ∃ (k c : Nat) (a : Option Addr), k ≤ n ∧ i = .int .i64 k ∧ v = .slice a k c ∧ OwnI wr w.heap.size a k c ((joinL sk xs ys).take k) ∧ Below w.heap.size w wr) (fun _ i _ => n - (intOf i).toNat)
  case atStart => exact ⟨0, 0, _, Nat.zero_le _, rfl, rfl, OwnI.lit0 w, below_alloc _ _⟩
  case round =>
    obtain ⟨k, c1, a1, hk, rfl, rfl, ho, hb⟩ := hrel
    by_cases hlt : k < n
    · obtain ⟨ab, ao, x, rfl, hx, HX⟩ := (ha.below hb).at (i := k) (by rw [HN.out]; exact hlt)
      have hx0 := hp.out x (List.mem_of_getElem? HX.out)
      obtain ⟨hx1, hx2⟩ := hx0
      have ho' : OwnI wr.drew w.heap.size a1 k c1 ((joinL sk xs ys).take k) := ho
      have hb' : Below w.heap.size w wr.drew := hb.drew
      have e1 : IntKind.i64.wrap (u * (m : Int)) = u * (m : Int) := IntWalk.i64_in _ (by omega)
      have e2 : IntKind.i64.wrap (x + u * (m : Int)) = x + u * (m : Int) := IntWalk.i64_in _ (by omega)
      have hsz := hb'.size
      have hk4 : k < 4194304 := by omega
      go_wp2
      go_region_law ((first | (refine step_appI rfl _ _ rfl w.heap.size _ _ _ _ rfl ho' _ rfl hk4 hsz ?_; intro a' c' w1 h1 h3) | (go_simp; go_at_call 68; refine (HBu.out _).mono ?_; rintro e w' ⟨rfl, rfl⟩)))
      all_goals
        clear e1 e2
        have e := joinL_left (sk := sk) (ys := ys) HX.out
        rw [← EU.out] at e
        rw [← take_snoc e] at h1
        clear e
        go_wp2
        go_roundw
        case rel => exact ⟨k + 1, c', a', by omega, by go_num, rfl, h1, hb'.trans h3⟩
        case measure => simp [intOf]; omega
    · obtain rfl : k = n := by omega
      go_wp2
      go_loopw [7, 9] (fun v i wr => ∃ (j t c : Nat) (a : Option Addr), j ≤ m ∧ i = .int .i64 j ∧ t = k + j ∧ v = .slice a t c ∧ OwnI wr w.heap.size a t c ((joinL sk xs ys).take t) ∧ Below w.heap.size w wr) (fun _ i _ => m - (intOf i).toNat)
      case atStart => exact ⟨0, k, c1, a1, Nat.zero_le _, rfl, rfl, rfl, ho, hb⟩
      case round =>
        obtain ⟨j, t, c1, a1, hj, rfl, ht, rfl, ho, hb⟩ := hrel
        have HT := Lib.hid ht; clear ht
        by_cases hlj : j < m
        · obtain ⟨ab, ao, x, rfl, hx, HX⟩ := (hbb.below hb).at (i := j) (by rw [HM.out]; exact hlj)
          have hx0 := hp2.out x (List.mem_of_getElem? HX.out)
          obtain ⟨hx1, hx2⟩ := hx0
          have ho' : OwnI wr.drew w.heap.size a1 t c1 ((joinL sk xs ys).take t) := ho
          have hb' : Below w.heap.size w wr.drew := hb.drew
          have e1 : IntKind.i64.wrap (v * (k : Int)) = v * (k : Int) := IntWalk.i64_in _ (by omega)
          have e2 : IntKind.i64.wrap (x + v * (k : Int)) = x + v * (k : Int) := IntWalk.i64_in _ (by omega)
          have hsz := hb'.size
          have ht4 : t < 4194304 := by have := HT.out; omega
          go_wp2
          go_region_law ((first | (refine step_appI rfl _ _ rfl w.heap.size _ _ _ _ rfl ho' _ rfl ht4 hsz ?_; intro a' c' w1 h1 h3) | (go_simp; go_at_call 68; refine (HBv.out _).mono ?_; rintro e w' ⟨rfl, rfl⟩)))
          all_goals
            clear e1 e2
            have e := joinL_right (sk := sk) (xs := xs) HX.out
            rw [← EV.out, HN.out, ← HT.out] at e
            rw [← take_snoc e] at h1
            clear e
            go_wp2
            go_roundw
            case rel => exact ⟨j + 1, t + 1, c', a', by omega, by go_num, by have := HT.out; omega, rfl, h1, hb'.trans h3⟩
            case measure => simp [intOf]; omega
        · rw [List.take_of_length_le (by rw [length_joinL]; have h1 := HN.out; have h2 := HM.out; have h3 := HT.out; omega)] at ho
          go_wp2
          go_ret
          exact ⟨_, _, _, rfl, ho, hb⟩
end Go.Proofs.Ytmojniiimondfaa
