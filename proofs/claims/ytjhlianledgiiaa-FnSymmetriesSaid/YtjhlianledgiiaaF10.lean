/- The walks of the order of permutations: cmp.Compare, slices.Compare, cmp.Or, comparePerms; the reference's l2Before. Condition: the lengths are at most 2^21. -/
import Derived.Test.YtjhlianledgiiaaF02
namespace Go.Proofs.Ytjhlianledgiiaa
open Go.RowKit

theorem dropNil {l : List Int} {k : Nat} (h : l.length ≤ k) : l.drop k = [] := List.drop_eq_nil_of_le h
def cmpI (x y : Int) : Int := if x < y then -1 else if y < x then 1 else 0
def cmpL : List Int → List Int → Int
  | [], [] => 0
  | [], _ :: _ => -1
  | _ :: _, [] => 1
  | x :: xs, y :: ys => if x < y then -1 else if y < x then 1 else cmpL xs ys
/-- By length, then by the first number that differs. -/
def cmpP (xs ys : List Int) : Int := if xs.length < ys.length then -1 else if ys.length < xs.length then 1 else cmpL xs ys
theorem cmpL_same (xs : List Int) : cmpL xs xs = 0 := by
  induction xs with
  | nil => rfl
  | cons x xs ih => simp [cmpL, ih]
theorem cmpL_drop {xs ys : List Int} {k : Nat} (h : xs.take k = ys.take k) (h1 : k ≤ xs.length) (h2 : k ≤ ys.length) : cmpL xs ys = cmpL (xs.drop k) (ys.drop k) := by
  induction k generalizing xs ys with
  | zero => simp
  | succ k ih =>
    cases xs with
    | nil => simp at h1
    | cons x xs =>
      cases ys with
      | nil => simp at h2
      | cons y ys =>
        simp only [List.take_succ_cons, List.cons.injEq] at h
        obtain ⟨rfl, h⟩ := h
        simp only [List.length_cons] at h1 h2
        simp [cmpL, ih h (by omega) (by omega)]
theorem drop_cons {xs : List Int} {k : Nat} {x : Int} (h : xs[k]? = some x) : xs.drop k = x :: xs.drop (k + 1) := by
  obtain ⟨h1, h2⟩ := List.getElem?_eq_some_iff.1 h
  rw [List.drop_eq_getElem_cons h1, h2]
theorem cmpL_at {xs ys : List Int} {k : Nat} {x y : Int} (h : xs.take k = ys.take k) (hx : xs[k]? = some x) (hy : ys[k]? = some y) :
    cmpL xs ys = if x < y then -1 else if y < x then 1 else cmpL (xs.drop (k + 1)) (ys.drop (k + 1)) := by
  have h1 := (List.getElem?_eq_some_iff.1 hx).1
  have h2 := (List.getElem?_eq_some_iff.1 hy).1
  rw [cmpL_drop h (by omega) (by omega), drop_cons hx, drop_cons hy]
  rfl
theorem take_eq_succ' {α : Type} {xs ys : List α} {k : Nat} {x : α} (h : xs.take k = ys.take k) (hx : xs[k]? = some x) (hy : ys[k]? = some x) : xs.take (k + 1) = ys.take (k + 1) := by
  rw [List.take_add_one, List.take_add_one, h, hx, hy]

set_option maxHeartbeats 400000 in
theorem isNaN_any (x : Int) (w : World) :
    Calls Try.prog 145 #[.int .i64 x] w fun e w' => e = .returned (.bool false) ∧ w' = w := by
  go_enter Try.func145, Try.ntmps145
  go_wp2
  go_ret
  exact ⟨ret_bool (by simp), rfl⟩

set_option maxHeartbeats 400000 in
theorem cmpCompare_any (x y : Int) (w : World) :
    Calls Try.prog 133 #[.int .i64 x, .int .i64 y] w fun e w' => e = .returned (.int .i64 (cmpI x y)) ∧ w' = w := by
  by_cases h1 : x < y
  · have e : cmpI x y = -1 := by unfold cmpI; rw [if_pos h1]
    rw [e]; clear e
    go_enter Try.func133, Try.ntmps133
    go_wp2_with (go_at_call 145; refine (isNaN_any _ _).mono ?_; rintro e w' ⟨rfl, rfl⟩)
    go_ret
    exact ⟨rfl, rfl⟩
  · by_cases h2 : y < x
    · have e : cmpI x y = 1 := by unfold cmpI; rw [if_neg h1, if_pos h2]
      rw [e]; clear e
      go_enter Try.func133, Try.ntmps133
      go_wp2_with (go_at_call 145; refine (isNaN_any _ _).mono ?_; rintro e w' ⟨rfl, rfl⟩)
      go_ret
      exact ⟨rfl, rfl⟩
    · have e : cmpI x y = 0 := by unfold cmpI; rw [if_neg h1, if_neg h2]
      rw [e]; clear e
      go_enter Try.func133, Try.ntmps133
      go_wp2_with (go_at_call 145; refine (isNaN_any _ _).mono ?_; rintro e w' ⟨rfl, rfl⟩)
      go_ret
      exact ⟨rfl, rfl⟩

set_option maxHeartbeats 800000 in
theorem slicesCompare_any (a b : Option Addr) (n m c d : Nat) (xs ys : List Int) (w : World) (h : SlI w a n c xs) (hq : SlI w b m d ys) :
    Calls Try.prog 134 #[.slice a n c, .slice b m d] w fun e w' => e = .returned (.int .i64 (cmpL xs ys)) ∧ w' = w := by
  obtain ⟨ha, hn, hnb, _⟩ := h
  obtain ⟨hb, hm, hmb, _⟩ := hq
  have HN := Lib.hid hn; clear hn
  have HM := Lib.hid hm; clear hm
  go_enter Try.func134, Try.ntmps134
  go_wp2
  go_loop [11] (fun i => ∃ k : Nat, k ≤ n ∧ k ≤ m ∧ i = .int .i64 k ∧ Hid (xs.take k = ys.take k)) (fun i => n - (intOf i).toNat)
  case atStart => exact ⟨0, Nat.zero_le _, Nat.zero_le _, rfl, by simp [Hid]⟩
  case round =>
    obtain ⟨k, hk, hkm, rfl, ht⟩ := hrel
    by_cases hlt : k < n
    · obtain ⟨ab, ao, x, rfl, hx, HX⟩ := ha.at (i := k) (by rw [HN.out]; exact hlt)
      by_cases hlm : k < m
      · obtain ⟨bb, bo, y, rfl, hy, HY⟩ := hb.at (i := k) (by rw [HM.out]; exact hlm)
        have e := cmpL_at ht.out HX.out HY.out
        by_cases h1 : x < y
        · rw [if_pos h1] at e
          have E := Lib.hid e; clear e
          have HC : Hid (cmpI x y = -1) := by show _ = _; unfold cmpI; rw [if_pos h1]
          clear h1
          go_wp2_with fail
          refine (cmpCompare_any x y _).mono ?_
          rw [HC.out]
          rintro e w1 ⟨rfl, rfl⟩
          go_wp2
          go_ret
          exact ⟨ret_int E.out.symm, rfl⟩
        · rw [if_neg h1] at e
          by_cases h2 : y < x
          · rw [if_pos h2] at e
            have E := Lib.hid e; clear e
            have HC : Hid (cmpI x y = 1) := by show _ = _; unfold cmpI; rw [if_neg h1, if_pos h2]
            clear h1 h2
            go_wp2_with fail
            refine (cmpCompare_any x y _).mono ?_
            rw [HC.out]
            rintro e w1 ⟨rfl, rfl⟩
            go_wp2
            go_ret
            exact ⟨ret_int E.out.symm, rfl⟩
          · have HC : Hid (cmpI x y = 0) := by show _ = _; unfold cmpI; rw [if_neg h1, if_neg h2]
            have hxy : x = y := by omega
            have ht' : Hid (xs.take (k + 1) = ys.take (k + 1)) := by
              have h3 := HY.out
              rw [← hxy] at h3
              exact take_eq_succ' ht.out HX.out h3
            clear h1 h2 e hxy
            go_wp2_with fail
            refine (cmpCompare_any x y _).mono ?_
            rw [HC.out]
            rintro e w1 ⟨rfl, rfl⟩
            go_wp2
            go_round
            case rel => exact ⟨k + 1, by omega, by omega, by go_num, ht'⟩
            case measure => simp [intOf]; omega
      · have E : Hid (cmpL xs ys = 1) := by
          show _ = _
          have h1 := HN.out; have h2 := HM.out
          rw [cmpL_drop ht.out (by omega) (by omega), dropNil (l := ys) (by omega), drop_cons HX.out]; rfl
        go_wp2
        go_ret
        exact ⟨ret_int E.out.symm, rfl⟩
    · by_cases hlm : n < m
      · have E : Hid (cmpL xs ys = -1) := by
          show _ = _
          have h1 := HN.out; have h2 := HM.out
          obtain ⟨y, hy⟩ : ∃ y, ys[k]? = some y := ⟨_, List.getElem?_eq_getElem (by omega)⟩
          rw [cmpL_drop ht.out (by omega) (by omega), dropNil (l := xs) (by omega), drop_cons hy]; rfl
        go_wp2
        go_ret
        exact ⟨ret_int E.out.symm, rfl⟩
      · have E : Hid (cmpL xs ys = 0) := by
          show _ = _
          have h1 := HN.out; have h2 := HM.out
          rw [cmpL_drop ht.out (by omega) (by omega), dropNil (l := ys) (by omega), dropNil (l := xs) (by omega)]; rfl
        go_wp2
        go_ret
        exact ⟨ret_int E.out.symm, rfl⟩

def orL : List Int → Int
  | [] => 0
  | x :: xs => if x = 0 then orL xs else x
theorem orL_at {xs : List Int} {k : Nat} {x : Int} (h : xs[k]? = some x) : orL (xs.drop k) = if x = 0 then orL (xs.drop (k + 1)) else x := by
  rw [drop_cons h]; rfl

set_option maxHeartbeats 400000 in
theorem cmpOr_any (a : Option Addr) (n c : Nat) (xs : List Int) (w : World) (h : SlI w a n c xs) :
    Calls Try.prog 132 #[.slice a n c] w fun e w' => e = .returned (.int .i64 (orL xs)) ∧ w' = w := by
  obtain ⟨ha, hn, hnb, _⟩ := h
  have HN := Lib.hid hn; clear hn
  go_enter Try.func132, Try.ntmps132
  go_wp2
  go_loop [8] (fun i => ∃ k : Nat, k ≤ n ∧ i = .int .i64 k ∧ Hid (orL xs = orL (xs.drop k))) (fun i => n - (intOf i).toNat)
  case atStart => exact ⟨0, Nat.zero_le _, rfl, rfl⟩
  case round =>
    obtain ⟨k, hk, rfl, ht⟩ := hrel
    by_cases hlt : k < n
    · obtain ⟨ab, ao, x, rfl, hx, HX⟩ := ha.at (i := k) (by rw [HN.out]; exact hlt)
      have e := ht.out
      rw [orL_at HX.out] at e
      by_cases h0 : x = 0
      · rw [if_pos h0] at e
        have E : Hid (orL xs = orL (xs.drop (k + 1))) := e
        clear e
        subst h0
        go_wp2
        go_round
        case rel => exact ⟨k + 1, by omega, by go_num, E⟩
        case measure => simp [intOf]; omega
      · rw [if_neg h0] at e
        have E := Lib.hid e; clear e
        have hne : (x != 0) = true := by simp [h0]
        clear h0
        go_wp2
        go_ret
        exact ⟨ret_int E.out.symm, rfl⟩
    · have E : Hid (orL xs = 0) := by
        show _ = _
        rw [ht.out, dropNil (l := xs) (by rw [HN.out]; omega)]; rfl
      go_wp2
      go_ret
      exact ⟨ret_int E.out.symm, rfl⟩

theorem cmpP_or (xs ys : List Int) : orL [cmpI (xs.length : Int) (ys.length : Int), cmpL xs ys] = cmpP xs ys := by
  unfold cmpP cmpI
  by_cases h1 : xs.length < ys.length
  · simp [orL, h1]
  · by_cases h2 : ys.length < xs.length
    · simp [orL, h1, h2]
    · simp only [orL, h1, h2, Int.ofNat_lt, if_false]
      by_cases h3 : cmpL xs ys = 0 <;> simp [h3]
theorem cells_two {w : World} {x y : Int} : Ints (w.alloc (.cells #[.int .i64 x, .int .i64 y] 3)) (some ⟨w.heap.size, 0, none⟩) [x, y] := by
  intro i v hv
  refine ⟨w.heap.size, 0, rfl, ?_⟩
  match i, hv with
  | 0, hv => simp at hv; subst hv; simp
  | 1, hv => simp at hv; subst hv; simp

set_option maxHeartbeats 400000 in
theorem comparePerms_any (a b : Option Addr) (n m c d : Nat) (xs ys : List Int) (w : World) (h : SlI w a n c xs) (hq : SlI w b m d ys) :
    Calls Try.prog 109 #[.slice a n c, .slice b m d] w (RetV w (.int .i64 (cmpP xs ys))) := by
  have HE : Hid (orL [cmpI (n : Int) (m : Int), cmpL xs ys] = cmpP xs ys) := by
    show _ = _; rw [← cmpP_or, h.2.1, hq.2.1]
  go_enter Try.func109, Try.ntmps109
  go_wp2_with fail
  refine (cmpCompare_any _ _ _).mono ?_
  rintro e w1 ⟨rfl, rfl⟩
  go_wp2_with fail
  refine (slicesCompare_any a b n m c d xs ys _ h hq).mono ?_
  rintro e w1 ⟨rfl, rfl⟩
  go_wp2_with fail
  refine (cmpOr_any _ 2 2 [cmpI (n : Int) (m : Int), cmpL xs ys] _ ⟨cells_two, rfl, by omega, Nat.le_refl _, by simp⟩).mono ?_
  rintro e w1 ⟨rfl, rfl⟩
  go_wp2
  go_ret
  exact ⟨ret_int HE.out, below_alloc _ _⟩
end Go.Proofs.Ytjhlianledgiiaa
