/- The walks of IsInterval, of the program and of the reference. No condition. -/
import Derived.Test.YtmojniiimondfaaF02
namespace Go.Proofs.Ytmojniiimondfaa
open Go.RowKit

/-- The greatest of xs[f], .., xs[f + k - 1] (and of xs[f]). -/
def mxAt (xs : List Int) (f : Nat) : Nat → Int
  | 0 => xs.getD f 0
  | k + 1 => max (mxAt xs f k) (xs.getD (f + k) 0)
def mnAt (xs : List Int) (f : Nat) : Nat → Int
  | 0 => xs.getD f 0
  | k + 1 => min (mnAt xs f k) (xs.getD (f + k) 0)
theorem mxAt_cut {xs : List Int} {f m k : Nat} (hk : k ≤ m) (hm : 0 < m) : mxAt ((xs.drop f).take m) 0 k = mxAt xs f k := by
  induction k with
  | zero => simp [mxAt, List.getElem?_take, hm]
  | succ k ih => simp only [mxAt, ih (by omega)]; congr 1; simp [List.getElem?_take, show k < m by omega]
theorem mnAt_cut {xs : List Int} {f m k : Nat} (hk : k ≤ m) (hm : 0 < m) : mnAt ((xs.drop f).take m) 0 k = mnAt xs f k := by
  induction k with
  | zero => simp [mnAt, List.getElem?_take, hm]
  | succ k ih => simp only [mnAt, ih (by omega)]; congr 1; simp [List.getElem?_take, show k < m by omega]
/-- Numbers from 0 to b. -/
def Upb (b : Nat) (xs : List Int) : Prop := ∀ x ∈ xs, 0 ≤ x ∧ x ≤ (b : Int)
theorem Upb.getD {b : Nat} {xs : List Int} (h : Upb b xs) (i : Nat) : 0 ≤ xs.getD i 0 ∧ xs.getD i 0 ≤ (b : Int) := by
  by_cases hi : i < xs.length
  · have := h _ (List.getElem_mem hi); simpa [hi] using this
  · simp [show xs.length ≤ i by omega]
theorem mxAt_bd {b : Nat} {xs : List Int} (h : Upb b xs) (f k : Nat) : 0 ≤ mxAt xs f k ∧ mxAt xs f k ≤ (b : Int) := by
  induction k with
  | zero => exact h.getD _
  | succ k ih => have := h.getD (f + k); unfold mxAt; omega
theorem mnAt_bd {b : Nat} {xs : List Int} (h : Upb b xs) (f k : Nat) : 0 ≤ mnAt xs f k ∧ mnAt xs f k ≤ (b : Int) := by
  induction k with
  | zero => exact h.getD _
  | succ k ih => have := h.getD (f + k); unfold mnAt; omega
theorem IsPermL.upb {n : Nat} {xs : List Int} (h : IsPermL xs) (hn : xs.length = n) : Upb n xs := fun x hx => by have := h.1 x hx; omega
/-- Are the numbers at the m places from f on without a gap? -/
def runB (xs : List Int) (f m : Nat) : Bool := decide (mxAt xs f m - mnAt xs f m = (m : Int) - 1)

set_option maxHeartbeats 400000 in
theorem slicesMax_any (a : Option Addr) (n c : Nat) (xs : List Int) (w : World) (h : SlI w a n c xs) (hn0 : 0 < n) :
    Calls Try.prog 72 #[.slice a n c] w fun e w' => e = .returned (.int .i64 (mxAt xs 0 n)) ∧ w' = w := by
  obtain ⟨ha, hn, hnb, _⟩ := h
  have HN := Lib.hid hn; clear hn
  obtain ⟨ab, ao, x0, rfl, hx0, HX0⟩ := ha.at (i := 0) (by rw [HN.out]; exact hn0)
  simp only [Nat.add_zero] at hx0
  have hn1 : ¬ ((n : Int) < 1) := by omega
  go_enter Try.func72, Try.ntmps72
  go_wp2
  go_loop [3, 4] (fun m i => ∃ k : Nat, k ≤ n ∧ 1 ≤ k ∧ i = .int .i64 k ∧ m = .int .i64 (mxAt xs 0 k)) (fun _ i => n - (intOf i).toNat)
  case atStart =>
    have e : x0 = mxAt xs 0 1 := by simp [mxAt, HX0.out]
    exact ⟨1, by omega, by omega, rfl, by rw [← e]⟩
  case round =>
    obtain ⟨k, hk, hk1, rfl, rfl⟩ := hrel
    by_cases hlt : k < n
    · obtain ⟨x, hx, HX⟩ := ha.cell (i := k) (by rw [HN.out]; exact hlt)
      have e : mxAt xs 0 (k + 1) = max (mxAt xs 0 k) x := by simp [mxAt, HX.out]
      obtain ⟨m, hm⟩ : ∃ m, m = mxAt xs 0 k := ⟨_, rfl⟩
      rw [← hm] at e ⊢
      have E := Lib.hid e
      clear e hm
      go_wp2
      go_round
      case rel => exact ⟨k + 1, by omega, by omega, by go_num, by rw [E.out]; exact congrArg _ (by split <;> omega)⟩
      case measure => simp [intOf]; omega
    · have : k = n := by omega
      subst this
      go_wp2
      go_ret
      exact ⟨rfl, rfl⟩

set_option maxHeartbeats 400000 in
theorem slicesMin_any (a : Option Addr) (n c : Nat) (xs : List Int) (w : World) (h : SlI w a n c xs) (hn0 : 0 < n) :
    Calls Try.prog 71 #[.slice a n c] w fun e w' => e = .returned (.int .i64 (mnAt xs 0 n)) ∧ w' = w := by
  obtain ⟨ha, hn, hnb, _⟩ := h
  have HN := Lib.hid hn; clear hn
  obtain ⟨ab, ao, x0, rfl, hx0, HX0⟩ := ha.at (i := 0) (by rw [HN.out]; exact hn0)
  simp only [Nat.add_zero] at hx0
  have hn1 : ¬ ((n : Int) < 1) := by omega
  go_enter Try.func71, Try.ntmps71
  go_wp2
  go_loop [3, 4] (fun m i => ∃ k : Nat, k ≤ n ∧ 1 ≤ k ∧ i = .int .i64 k ∧ m = .int .i64 (mnAt xs 0 k)) (fun _ i => n - (intOf i).toNat)
  case atStart =>
    have e : x0 = mnAt xs 0 1 := by simp [mnAt, HX0.out]
    exact ⟨1, by omega, by omega, rfl, by rw [← e]⟩
  case round =>
    obtain ⟨k, hk, hk1, rfl, rfl⟩ := hrel
    by_cases hlt : k < n
    · obtain ⟨x, hx, HX⟩ := ha.cell (i := k) (by rw [HN.out]; exact hlt)
      have e : mnAt xs 0 (k + 1) = min (mnAt xs 0 k) x := by simp [mnAt, HX.out]
      obtain ⟨m, hm⟩ : ∃ m, m = mnAt xs 0 k := ⟨_, rfl⟩
      rw [← hm] at e ⊢
      have E := Lib.hid e
      clear e hm
      go_wp2
      go_round
      case rel => exact ⟨k + 1, by omega, by omega, by go_num, by rw [E.out]; exact congrArg _ (by split <;> omega)⟩
      case measure => simp [intOf]; omega
    · have : k = n := by omega
      subst this
      go_wp2
      go_ret
      exact ⟨rfl, rfl⟩


set_option maxHeartbeats 400000 in
theorem l1Min_any (x y : Int) (w : World) :
    Calls Try.prog 74 #[.int .i64 x, .int .i64 y] w fun e w' => e = .returned (.int .i64 (min x y)) ∧ w' = w := by
  by_cases h : x < y
  all_goals
    go_enter Try.func74, Try.ntmps74
    go_wp2
    go_ret
    exact ⟨ret_int (by omega), rfl⟩

set_option maxHeartbeats 400000 in
theorem l1Max_any (x y : Int) (w : World) :
    Calls Try.prog 66 #[.int .i64 x, .int .i64 y] w fun e w' => e = .returned (.int .i64 (max x y)) ∧ w' = w := by
  by_cases h : y < x
  all_goals
    go_enter Try.func66, Try.ntmps66
    go_wp2
    go_ret
    exact ⟨ret_int (by omega), rfl⟩

set_option maxHeartbeats 400000 in
/-- The reference's run: places from f to f + m - 1. -/
theorem l5Run_any (a : Option Addr) (n c f m : Nat) (xs : List Int) (w : World) (h : SlI w a n c xs) (hp : Hid (Upb 1048576 xs)) (hm0 : 0 < m) (hfm : f + m ≤ n) (t : Int) (ht : t = (f : Int) + (m : Int) - 1) :
    Calls Try.prog 75 #[.slice a n c, .int .i64 f, .int .i64 t] w fun e w' => e = .returned (.bool (runB xs f m)) ∧ w' = w := by
  obtain ⟨ha, hn, hnb, _⟩ := h
  have HN := Lib.hid hn; clear hn
  have ht1 : 0 ≤ t := by omega
  have ht2 : t ≤ 2097152 := by omega
  have HT := Lib.hid ht; clear ht
  obtain ⟨ab, ao, x0, rfl, hx0, HX0⟩ := ha.at (i := f) (by rw [HN.out]; omega)
  have E0 : Hid (x0 = xs.getD f 0) := by simp [Hid, HX0.out]
  go_enter Try.func75, Try.ntmps75
  go_wp2
  go_loop [7, 8, 9] (fun lo hi i => ∃ k : Nat, k ≤ m ∧ i = .int .i64 ((f : Int) + (k : Int)) ∧ lo = .int .i64 (mnAt xs f k) ∧ hi = .int .i64 (mxAt xs f k)) (fun _ _ i => f + m - (intOf i).toNat)
  case atStart => exact ⟨0, by omega, by go_num, by rw [E0.out]; rfl, by rw [E0.out]; rfl⟩
  case round =>
    obtain ⟨k, hk, rfl, rfl, rfl⟩ := hrel
    have b1 := mnAt_bd hp.out f k
    have b2 := mxAt_bd hp.out f k
    obtain ⟨p, hp'⟩ : ∃ p, p = mnAt xs f k := ⟨_, rfl⟩
    obtain ⟨q, hq'⟩ : ∃ q, q = mxAt xs f k := ⟨_, rfl⟩
    rw [← hp'] at b1 ⊢
    rw [← hq'] at b2 ⊢
    have HP := Lib.hid hp'; clear hp'
    have HQ := Lib.hid hq'; clear hq'
    obtain ⟨b11, b12⟩ := b1
    obtain ⟨b21, b22⟩ := b2
    by_cases hlt : k < m
    · obtain ⟨x, hx, HX⟩ := ha.cell (i := f + k) (by rw [HN.out]; omega)
      have hcmp : (f : Int) + (k : Int) ≤ t := by have := HT.out; omega
      have e1 : Hid (mnAt xs f (k + 1) = min p x) := by show _ = _; rw [HP.out]; simp [mnAt, HX.out]
      have e2 : Hid (mxAt xs f (k + 1) = max q x) := by show _ = _; rw [HQ.out]; simp [mxAt, HX.out]
      go_wp2_with fail
      refine (l1Min_any p x _).mono ?_
      rintro e w1 ⟨rfl, rfl⟩
      go_wp2_with fail
      refine (l1Max_any q x _).mono ?_
      rintro e w1 ⟨rfl, rfl⟩
      go_wp2
      go_round
      case rel => exact ⟨k + 1, by omega, by go_num, by rw [e1.out], by rw [e2.out]⟩
      case measure => simp [intOf]; omega
    · obtain rfl : k = m := by omega
      have hcmp : ¬ ((f : Int) + (k : Int) ≤ t) := by have := HT.out; omega
      have er : Hid (runB xs f k = (q - p == (k : Int) - 1)) := by
        show _ = _; unfold runB; rw [← HP.out, ← HQ.out]; rfl
      have et : t - (f : Int) = (k : Int) - 1 := by have := HT.out; omega
      have ET := Lib.hid et; clear et
      go_wp2
      go_ret
      exact ⟨ret_bool (by rw [er.out, ET.out]), rfl⟩

set_option maxHeartbeats 400000 in
theorem isInterval_any (a : Option Addr) (n c f m : Nat) (xs : List Int) (w : World) (h : SlI w a n c xs) (hp : Hid (Upb 1048576 xs)) (hm0 : 0 < m) (hfm : f + m ≤ n) (t : Int) (ht : t = (f : Int) + (m : Int)) :
    Calls Try.prog 70 #[.slice a n c, .int .i64 f, .int .i64 t] w fun e w' => e = .returned (.bool (runB xs f m)) ∧ w' = w := by
  subst ht
  have hcf : ¬ (c = f) := by have := h.2.2.2.1; omega
  have hnc := h.2.2.2.1
  have hnb := h.2.2.1
  obtain ⟨ab, ao, x0, rfl, hx0, _⟩ := h.1.at (i := f) (by rw [h.2.1]; omega)
  have hs : SlI w (some ⟨ab, ao + f, none⟩) m (c - f) ((xs.drop f).take m) := ⟨(h.1.drop f).take m, by rw [List.length_take, List.length_drop, h.2.1]; omega, by omega, by omega, by simp⟩
  have b1 := mnAt_bd hp.out f m
  have b2 := mxAt_bd hp.out f m
  have hMx := slicesMax_any _ _ _ _ w hs hm0
  have hMn := slicesMin_any _ _ _ _ w hs hm0
  rw [mxAt_cut (Nat.le_refl _) hm0] at hMx
  rw [mnAt_cut (Nat.le_refl _) hm0] at hMn
  have er : Hid (runB xs f m = (mxAt xs f m - mnAt xs f m == (m : Int) - 1)) := rfl
  obtain ⟨p, hp'⟩ : ∃ p, p = mnAt xs f m := ⟨_, rfl⟩
  obtain ⟨q, hq'⟩ : ∃ q, q = mxAt xs f m := ⟨_, rfl⟩
  rw [← hp'] at b1 er hMn
  rw [← hq'] at b2 er hMx
  clear hp' hq'
  obtain ⟨b11, b12⟩ := b1
  obtain ⟨b21, b22⟩ := b2
  have HMx := Lib.hid hMx; clear hMx
  have HMn := Lib.hid hMn; clear hMn
  have el : (f : Int) + (m : Int) - (f : Int) = (m : Int) := by omega
  go_enter Try.func70, Try.ntmps70
  go_wp2_with fail
  refine HMx.out.mono ?_
  rintro e w1 ⟨rfl, rfl⟩
  go_wp2_with fail
  refine HMn.out.mono ?_
  rintro e w1 ⟨rfl, rfl⟩
  go_wp2
  go_ret
  exact ⟨ret_bool (by rw [er.out]), rfl⟩

/-- IsInterval -/
def IvOk (xs : List Int) (f t : Int) : Prop := Perm8 xs ∧ 1 ≤ f ∧ f ≤ t ∧ t ≤ (xs.length : Int)
instance (xs : List Int) (f t : Int) : Decidable (IvOk xs f t) := inferInstanceAs (Decidable (_ ∧ _))
def ivP (xs : List Int) (f t : Int) : Bool := decide (IvOk xs f t) && runB xs (f.toNat - 1) (t.toNat - (f.toNat - 1))
theorem Perm8.upb {xs : List Int} (h : Perm8 xs) : Upb 1048576 xs := fun x hx => by have h1 := h.2.1 x hx; have h2 := h.1; omega

set_option maxHeartbeats 800000 in
theorem impl_IsInterval (a : Option Addr) (n c : Nat) (xs : List Int) (f t : Int) (w : World) (h : SlI w a n c xs) (_hf : (Lit.int .i64 f).wf = true) (_ht : (Lit.int .i64 t).wf = true) :
    Calls Try.prog 29 #[.slice a n c, .int .i64 f, .int .i64 t] w (RetV w (.bool (ivP xs f t))) := by
  have hI := impl_IsPerm a n c xs w h
  have HN : Hid (xs.length = n) := h.2.1
  by_cases hp : Perm8 xs
  · rw [decide_eq_true hp] at hI
    have HP : Hid (Upb 1048576 xs) := hp.upb
    have hn8 : n ≤ 8 := by have h1 := hp.1; have h2 := HN.out; omega
    by_cases h1 : 1 ≤ f
    · by_cases h2 : f ≤ t
      · by_cases h3 : t ≤ (n : Int)
        · obtain ⟨f', hf'⟩ : ∃ f' : Nat, f = (f' : Int) + 1 := ⟨(f - 1).toNat, by omega⟩
          obtain ⟨m, hm'⟩ : ∃ m : Nat, t = (f' : Int) + (m : Int) := ⟨(t - (f - 1)).toNat, by omega⟩
          have hok : ivP xs f t = runB xs f' m := by
            unfold ivP
            rw [decide_eq_true (show IvOk xs f t from ⟨hp, h1, h2, by rw [HN.out]; exact h3⟩), Bool.true_and]
            congr 1
            · omega
            · omega
          have hm0 : 0 < m := by omega
          have hfm : f' + m ≤ n := by omega
          rw [hok]
          clear hok hp
          subst hf' hm'
          go_enter Try.func29, Try.ntmps29
          go_wp2_with fail
          refine hI.mono ?_
          rintro e w1 ⟨rfl, hb1⟩
          go_wp2_with fail
          refine (isInterval_any a n c f' m xs _ (h.below hb1) HP hm0 hfm _ (by omega)).mono ?_
          rintro e w2 ⟨rfl, rfl⟩
          go_wp2
          go_ret
          exact ⟨rfl, hb1⟩
        · have hno : ivP xs f t = false := by
            unfold ivP; rw [decide_eq_false (fun ho => h3 (by rw [← HN.out]; exact ho.2.2.2)), Bool.false_and]
          rw [hno]; clear hno hp
          go_enter Try.func29, Try.ntmps29
          go_wp2_with fail
          refine hI.mono ?_
          rintro e w1 ⟨rfl, hb1⟩
          go_wp2
          go_ret
          exact ⟨ret_bool (by simp [h3]), hb1⟩
      · have hno : ivP xs f t = false := by
          unfold ivP; rw [decide_eq_false (fun ho => h2 ho.2.2.1), Bool.false_and]
        rw [hno]; clear hno hp
        go_enter Try.func29, Try.ntmps29
        go_wp2_with fail
        refine hI.mono ?_
        rintro e w1 ⟨rfl, hb1⟩
        go_wp2
        go_ret
        exact ⟨ret_bool (by simp [h2]), hb1⟩
    · have hno : ivP xs f t = false := by
        unfold ivP; rw [decide_eq_false (fun ho => h1 ho.2.1), Bool.false_and]
      rw [hno]; clear hno hp
      go_enter Try.func29, Try.ntmps29
      go_wp2_with fail
      refine hI.mono ?_
      rintro e w1 ⟨rfl, hb1⟩
      go_wp2
      go_ret
      exact ⟨ret_bool (by simp [h1]), hb1⟩
  · rw [decide_eq_false hp] at hI
    have hno : ivP xs f t = false := by
      unfold ivP; rw [decide_eq_false (fun ho => hp ho.1), Bool.false_and]
    rw [hno]; clear hno hp
    go_enter Try.func29, Try.ntmps29
    go_wp2_with fail
    refine hI.mono ?_
    rintro e w1 ⟨rfl, hb1⟩
    go_wp2
    go_ret
    exact ⟨rfl, hb1⟩

set_option maxHeartbeats 800000 in
theorem spec_IsInterval (a : Option Addr) (n c : Nat) (xs : List Int) (f t : Int) (w : World) (h : SlI w a n c xs) (_hf : (Lit.int .i64 f).wf = true) (_ht : (Lit.int .i64 t).wf = true) :
    Calls Try.prog 30 #[.slice a n c, .int .i64 f, .int .i64 t] w (RetV w (.bool (ivP xs f t))) := by
  have hI := spec_IsPerm a n c xs w h
  have HN : Hid (xs.length = n) := h.2.1
  by_cases hp : Perm8 xs
  · rw [decide_eq_true hp] at hI
    have HP : Hid (Upb 1048576 xs) := hp.upb
    have hn8 : n ≤ 8 := by have h1 := hp.1; have h2 := HN.out; omega
    by_cases h1 : 1 ≤ f
    · by_cases h2 : f ≤ t
      · by_cases h3 : t ≤ (n : Int)
        · obtain ⟨f', hf'⟩ : ∃ f' : Nat, f = (f' : Int) + 1 := ⟨(f - 1).toNat, by omega⟩
          obtain ⟨m, hm'⟩ : ∃ m : Nat, t = (f' : Int) + (m : Int) := ⟨(t - (f - 1)).toNat, by omega⟩
          have hok : ivP xs f t = runB xs f' m := by
            unfold ivP
            rw [decide_eq_true (show IvOk xs f t from ⟨hp, h1, h2, by rw [HN.out]; exact h3⟩), Bool.true_and]
            congr 1
            · omega
            · omega
          have hm0 : 0 < m := by omega
          have hfm : f' + m ≤ n := by omega
          rw [hok]
          clear hok hp
          subst hf' hm'
          go_enter Try.func30, Try.ntmps30
          go_wp2_with fail
          refine hI.mono ?_
          rintro e w1 ⟨rfl, hb1⟩
          go_wp2_with fail
          refine (l5Run_any a n c f' m xs _ (h.below hb1) HP hm0 hfm _ (by omega)).mono ?_
          rintro e w2 ⟨rfl, rfl⟩
          go_wp2
          go_ret
          exact ⟨rfl, hb1⟩
        · have hno : ivP xs f t = false := by
            unfold ivP; rw [decide_eq_false (fun ho => h3 (by rw [← HN.out]; exact ho.2.2.2)), Bool.false_and]
          rw [hno]; clear hno hp
          go_enter Try.func30, Try.ntmps30
          go_wp2_with fail
          refine hI.mono ?_
          rintro e w1 ⟨rfl, hb1⟩
          go_wp2
          go_ret
          exact ⟨ret_bool (by simp [h3]), hb1⟩
      · have hno : ivP xs f t = false := by
          unfold ivP; rw [decide_eq_false (fun ho => h2 ho.2.2.1), Bool.false_and]
        rw [hno]; clear hno hp
        go_enter Try.func30, Try.ntmps30
        go_wp2_with fail
        refine hI.mono ?_
        rintro e w1 ⟨rfl, hb1⟩
        go_wp2
        go_ret
        exact ⟨ret_bool (by simp [h2]), hb1⟩
    · have hno : ivP xs f t = false := by
        unfold ivP; rw [decide_eq_false (fun ho => h1 ho.2.1), Bool.false_and]
      rw [hno]; clear hno hp
      go_enter Try.func30, Try.ntmps30
      go_wp2_with fail
      refine hI.mono ?_
      rintro e w1 ⟨rfl, hb1⟩
      go_wp2
      go_ret
      exact ⟨ret_bool (by simp [h1]), hb1⟩
  · rw [decide_eq_false hp] at hI
    have hno : ivP xs f t = false := by
      unfold ivP; rw [decide_eq_false (fun ho => hp ho.1), Bool.false_and]
    rw [hno]; clear hno hp
    go_enter Try.func30, Try.ntmps30
    go_wp2_with fail
    refine hI.mono ?_
    rintro e w1 ⟨rfl, hb1⟩
    go_wp2
    go_ret
    exact ⟨rfl, hb1⟩
end Go.Proofs.Ytmojniiimondfaa
