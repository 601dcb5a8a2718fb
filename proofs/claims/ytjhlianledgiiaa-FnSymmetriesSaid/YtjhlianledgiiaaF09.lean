/- PatternOf, of the program and of the reference. No condition. -/
import Derived.Test.YtjhlianledgiiaaF08
namespace Go.Proofs.Ytjhlianledgiiaa
open Go.RowKit

theorem countP_lt_mono {x y : Int} (h : x < y) (l : List Int) : l.countP (fun z => decide (z < x)) ≤ l.countP (fun z => decide (z < y)) :=
  List.countP_mono_left fun z _ hz => by simp only [decide_eq_true_eq] at hz ⊢; omega
theorem countP_lt_lt {x y : Int} (h : x < y) : ∀ {xs : List Int}, x ∈ xs → xs.countP (fun z => decide (z < x)) < xs.countP (fun z => decide (z < y))
  | [], hx => by cases hx
  | z :: zs, hx => by
    rw [List.countP_cons, List.countP_cons]
    rcases List.mem_cons.1 hx with e | hx
    · subst e
      have h1 := countP_lt_mono h zs
      simp only [decide_eq_true_eq, Int.lt_irrefl, if_false, h, if_true]; omega
    · have h2 := countP_lt_lt h hx
      by_cases hz : z < x
      · simp only [decide_eq_true_eq, hz, if_true, show z < y by omega]; omega
      · simp only [decide_eq_true_eq, hz, if_false]; split <;> omega
theorem rk_lt {xs : List Int} {x y : Int} (hx : x ∈ xs) (h : x < y) : rk xs x < rk xs y := by
  unfold rk
  have := countP_lt_lt h hx
  omega
theorem rk_lt_iff {xs : List Int} {x y : Int} (hx : x ∈ xs) (hy : y ∈ xs) : rk xs x < rk xs y ↔ x < y := by
  constructor
  · intro h
    by_cases e : x < y
    · exact e
    · rcases Int.lt_or_eq_of_le (show y ≤ x by omega) with h2 | h2
      · have := rk_lt hy h2; omega
      · subst h2; omega
  · exact rk_lt hx
theorem rk_inj {xs : List Int} {x y : Int} (hx : x ∈ xs) (hy : y ∈ xs) (h : rk xs x = rk xs y) : x = y := by
  have h1 := rk_lt_iff hx hy
  have h2 := rk_lt_iff hy hx
  omega
theorem countP_lt_length {x : Int} : ∀ {xs : List Int}, x ∈ xs → xs.countP (fun z => decide (z < x)) < xs.length
  | [], hx => by cases hx
  | z :: zs, hx => by
    rw [List.countP_cons, List.length_cons]
    rcases List.mem_cons.1 hx with e | hx
    · subst e
      have := List.countP_le_length (l := zs) (p := fun z => decide (z < x))
      simp only [decide_eq_true_eq, Int.lt_irrefl, if_false]; omega
    · have := countP_lt_length hx
      split <;> omega
theorem rk_le {xs : List Int} {x : Int} (hx : x ∈ xs) : rk xs x ≤ (xs.length : Int) := by
  unfold rk
  have := countP_lt_length hx
  omega
theorem nodup_map_of {f : Int → Int} {l : List Int} (hf : ∀ x ∈ l, ∀ y ∈ l, f x = f y → x = y) (h : l.Nodup) : (l.map f).Nodup := by
  induction l with
  | nil => simp
  | cons x xs ih =>
    rw [List.nodup_cons] at h
    rw [List.map_cons, List.nodup_cons]
    refine ⟨fun hm => ?_, ih (fun a ha b hb => hf a (by simp [ha]) b (by simp [hb])) h.2⟩
    obtain ⟨y, hy, e⟩ := List.mem_map.1 hm
    exact h.1 (hf y (by simp [hy]) x (by simp) e ▸ hy)
theorem nodup_of_map {f : Int → Int} {l : List Int} (h : (l.map f).Nodup) : l.Nodup := by
  induction l with
  | nil => simp
  | cons x xs ih =>
    rw [List.map_cons, List.nodup_cons] at h
    rw [List.nodup_cons]
    exact ⟨fun hm => h.1 (List.mem_map.2 ⟨x, hm, rfl⟩), ih h.2⟩
/-- The pattern is a permutation just where no two numbers are alike. -/
theorem pat_perm (xs : List Int) : IsPermL (pat xs) ↔ xs.Nodup := by
  constructor
  · exact fun h => nodup_of_map h.2
  · intro h
    refine ⟨fun x hx => ?_, nodup_map_of (fun x hx y hy => rk_inj hx hy) h⟩
    obtain ⟨y, hy, rfl⟩ := List.mem_map.1 hx
    rw [length_pat]
    exact ⟨(rk_bd xs y _ rfl).1, rk_le hy⟩

/-- PatternOf -/
def PatOk (xs : List Int) : Prop := xs.length ≤ 8 ∧ xs.Nodup
instance (xs : List Int) : Decidable (PatOk xs) := inferInstanceAs (Decidable (_ ∧ _))
def patP (xs : List Int) : List Int := if PatOk xs then pat xs else []
theorem length_patP (xs : List Int) : (patP xs).length ≤ 8 := by
  unfold patP; split
  · rename_i h; rw [length_pat]; exact h.1
  · simp

set_option maxHeartbeats 400000 in
theorem impl_PatternOf (a : Option Addr) (n c : Nat) (xs : List Int) (w : World) (h : SlI w a n c xs) :
    Calls Try.prog 52 #[.slice a n c] w (RetIB w (patP xs) (decide (PatOk xs))) := by
  have HN : Hid (xs.length = n) := h.2.1
  have hnb := h.2.2.1
  by_cases h8 : n ≤ 8
  · have hpp := pat_perm xs
    by_cases hd : xs.Nodup
    · have hok : PatOk xs := ⟨by rw [HN.out]; exact h8, hd⟩
      have e : patP xs = pat xs := if_pos hok
      have HP : Hid (IsPermL (pat xs)) := hpp.2 hd
      rw [e, decide_eq_true hok]
      clear hok e hd hpp
      go_enter Try.func52, Try.ntmps52
      go_wp2_with fail
      refine (pattern_any a n c xs _ h).mono ?_
      rintro e w1 ⟨a1, n1, c1, rfl, ho1, hb1⟩
      go_wp2_with fail
      refine (isPerm_any a1 n1 c1 (pat xs) true _ ho1.ints ho1.1 (by have h1 := ho1.1; rw [length_pat, HN.out] at h1; omega) (decide_eq_true HP.out).symm).mono ?_
      rintro e w2 ⟨rfl, hb2⟩
      go_wp2
      go_ret2
      exact ⟨_, _, _, rfl, ho1.below hb2, hb1.trans (hb2.mono hb1.size)⟩
    · have hno : ¬ PatOk xs := fun ho => hd ho.2
      have e : patP xs = [] := if_neg hno
      have HP : Hid (¬ IsPermL (pat xs)) := fun hp => hd (hpp.1 hp)
      rw [e, decide_eq_false hno]
      clear hno e hd hpp
      go_enter Try.func52, Try.ntmps52
      go_wp2_with fail
      refine (pattern_any a n c xs _ h).mono ?_
      rintro e w1 ⟨a1, n1, c1, rfl, ho1, hb1⟩
      go_wp2_with fail
      refine (isPerm_any a1 n1 c1 (pat xs) false _ ho1.ints ho1.1 (by have h1 := ho1.1; rw [length_pat, HN.out] at h1; omega) (decide_eq_false HP.out).symm).mono ?_
      rintro e w2 ⟨rfl, hb2⟩
      go_wp2
      go_ret2
      exact ⟨_, _, _, rfl, OwnI.nil _ _, hb1.trans (hb2.mono hb1.size)⟩
  · have hno : ¬ PatOk xs := fun ho => h8 (by rw [← HN.out]; exact ho.1)
    have e : patP xs = [] := if_neg hno
    rw [e, decide_eq_false hno]
    clear hno e
    go_enter Try.func52, Try.ntmps52
    go_wp2
    go_ret2
    exact ⟨_, _, _, rfl, OwnI.nil _ _, Below.refl _ _⟩

theorem nodup_take_succ {xs : List Int} {k : Nat} {x : Int} (h : (xs.take k).Nodup) (hx : xs[k]? = some x) (hm : x ∉ xs.take k) : (xs.take (k + 1)).Nodup := by
  rw [take_snoc hx, List.nodup_append]
  refine ⟨h, by simp, ?_⟩
  intro a ha b hb; simp at hb; subst hb; intro hab; subst hab; exact hm ha
theorem not_nodup_twice {k : Nat} {xs : List Int} {x : Int} (hx : xs[k]? = some x) (h : x ∈ xs.take k) : ¬ xs.Nodup := by
  intro h1
  have e : xs = xs.take (k + 1) ++ xs.drop (k + 1) := (List.take_append_drop _ _).symm
  rw [e, take_snoc hx, List.nodup_append] at h1
  have h2 := h1.1
  rw [List.nodup_append] at h2
  exact h2.2.2 x h x (by simp) rfl

set_option maxHeartbeats 800000 in
theorem spec_PatternOf (a : Option Addr) (n c : Nat) (xs : List Int) (w : World) (h : SlI w a n c xs) :
    Calls Try.prog 53 #[.slice a n c] w (RetIB w (patP xs) (decide (PatOk xs))) := by
  have HN : Hid (xs.length = n) := h.2.1
  have hnb := h.2.2.1
  have hnc := h.2.2.2.1
  by_cases h8 : n ≤ 8
  · have ha := h.1
    go_enter Try.func53, Try.ntmps53
    go_wp2
    go_loopw [4] (fun i wr => ∃ k : Nat, k ≤ n ∧ i = .int .i64 k ∧ Hid ((xs.take k).Nodup) ∧ Quiet w wr) (fun i _ => n - (intOf i).toNat)
    case atStart => exact ⟨0, Nat.zero_le _, rfl, by simp [Hid], Quiet.refl _⟩
    case round =>
      obtain ⟨k, hk, rfl, ht, hq⟩ := hrel
      have ha' := ha.quiet hq
      by_cases hlt : k < n
      · obtain ⟨ab, ao, y, rfl, hy, HY⟩ := ha'.at (i := k) (by rw [HN.out]; exact hlt)
        by_cases hm : y ∈ xs.take k
        · have hno : ¬ PatOk xs := fun ho => not_nodup_twice HY.out hm ho.2
          have HE : Hid (patP xs = []) := if_neg hno
          have HD : Hid (decide (PatOk xs) = false) := decide_eq_false hno
          have HM := Lib.hid hm; clear hm hno
          go_wp2_with fail
          go_quiet ((go_at_call 99; exact Calls.quiet_of_same (l2Has_any _ k _ (xs.take k) _ true _ ((ha'.take k).drewN _) (by rw [List.length_take, HN.out]; omega) (by omega) (decide_eq_true HM.out).symm)))
          go_wp2
          go_ret2
          unfold RetIB
          rw [HE.out, HD.out]
          have hb := (hq.drewN nq).below w.heap.size
          exact ⟨_, _, _, rfl, (OwnI.lit0 _).mono hb.size, hb.alloc hb.size _⟩
        · have ht' : Hid ((xs.take (k + 1)).Nodup) := nodup_take_succ ht.out HY.out hm
          have HM := Lib.hid hm; clear hm
          go_wp2_with fail
          go_quiet ((go_at_call 99; exact Calls.quiet_of_same (l2Has_any _ k _ (xs.take k) _ false _ ((ha'.take k).drewN _) (by rw [List.length_take, HN.out]; omega) (by omega) (decide_eq_false HM.out).symm)))
          go_wp2
          go_roundw
          case rel => exact ⟨k + 1, by omega, by go_num, ht', hq.drewN _⟩
          case measure => simp [intOf]; omega
      · have hd : xs.Nodup := by
          have h1 := ht.out
          rwa [List.take_of_length_le (by rw [HN.out]; omega)] at h1
        have hok : PatOk xs := ⟨by rw [HN.out]; exact h8, hd⟩
        have HE : Hid (patP xs = pat xs) := if_pos hok
        have HD : Hid (decide (PatOk xs) = true) := decide_eq_true hok
        clear hd hok
        have hb := hq.below w.heap.size
        go_wp2_with fail
        refine (l2Pattern_any a n c xs _ (h.below hb)).mono ?_
        rintro e w2 ⟨a2, n2, c2, rfl, ho2, hb2⟩
        go_wp2
        go_ret2
        unfold RetIB
        rw [HE.out, HD.out]
        exact ⟨_, _, _, rfl, ho2.mono hb.size, hb.trans (hb2.mono hb.size)⟩
  · have hno : ¬ PatOk xs := fun ho => h8 (by rw [← HN.out]; exact ho.1)
    have e : patP xs = [] := if_neg hno
    rw [e, decide_eq_false hno]
    clear hno e
    go_enter Try.func53, Try.ntmps53
    go_wp2
    go_ret2
    exact ⟨_, _, _, rfl, OwnI.lit0 _, below_alloc _ _⟩
end Go.Proofs.Ytjhlianledgiiaa
