/- OrderPerms, of the program and of the reference. No condition but on the sizes. -/
import Derived.Test.YtjhlianledgiiaaF35
import Derived.Test.YtjhlianledgiiaaF67
namespace Go.Proofs.Ytjhlianledgiiaa
open Go.RowKit

def AllP (xss : List (List Int)) : Prop := ∀ r ∈ xss, Perm8 r
instance (xss : List (List Int)) : Decidable (AllP xss) := inferInstanceAs (Decidable (∀ r ∈ xss, Perm8 r))
def ordP (xss : List (List Int)) : List (List Int) := if AllP xss then ordL xss else []
theorem totL_putL (l : List (List Int)) (p : List Int) : totL (putL l p) ≤ totL l + p.length := by
  unfold putL; split
  · omega
  · have h := totL_append (l.take (putAt l p l.length)) (l.drop (putAt l p l.length))
    rw [List.take_append_drop] at h
    rw [totL_append]
    simp only [totL] at h ⊢
    omega
theorem totL_ordL (l : List (List Int)) : totL (ordL l) ≤ totL l := by
  have : ∀ (l a : List (List Int)), totL (l.foldl putL a) ≤ totL a + totL l := by
    intro l
    induction l with
    | nil => intro a; simp [totL]
    | cons p l ih => intro a; have h1 := ih (putL a p); have h2 := totL_putL a p; simp only [List.foldl_cons, totL] at h1 h2 ⊢; omega
  have := this l []; simpa [ordL, totL] using this
theorem bound_ordP (xss : List (List Int)) (h : totL xss ≤ 1048576 ∧ xss.length ≤ 1048576) : totL (ordP xss) ≤ 2097152 ∧ (ordP xss).length ≤ 2097152 := by
  unfold ordP; split
  · have h1 := totL_ordL xss; have h2 := length_ordL xss; exact ⟨by omega, by omega⟩
  · simp [totL]
theorem any_allP (xss : List (List Int)) : (xss.any fun xs => !decide (Perm8 xs)) = !decide (AllP xss) := by
  by_cases h : AllP xss
  · rw [decide_eq_true h]
    simp only [Bool.not_true]
    rw [List.any_eq_false]
    intro x hx; simp [h x hx]
  · rw [decide_eq_false h]
    simp only [Bool.not_false]
    rw [List.any_eq_true]
    obtain ⟨x, hx⟩ := Classical.not_forall.1 h
    obtain ⟨hx1, hx2⟩ := Classical.not_imp.1 hx
    exact ⟨x, hx1, by simp [hx2]⟩

set_option maxHeartbeats 400000 in
theorem arpClosure_any (a : Option Addr) (n c : Nat) (xs : List Int) (w : World) (h : SlI w a n c xs) :
    Calls Try.prog 128 #[.slice a n c] w (RetV w (.bool (!decide (Perm8 xs)))) := by
  have hC := impl_IsPerm a n c xs w h
  obtain ⟨b, hb⟩ : ∃ b, b = decide (Perm8 xs) := ⟨_, rfl⟩
  rw [← hb] at hC ⊢
  clear hb
  go_enter Try.func128, Try.ntmps128
  go_wp2_with fail
  refine hC.mono ?_
  rintro e w1 ⟨rfl, hb1⟩
  go_wp2
  go_ret
  exact ⟨rfl, hb1⟩

set_option maxHeartbeats 400000 in
theorem arpIndexFunc_any (a : Option Addr) (n c : Nat) (xss : List (List Int)) (w : World) (ha : IIs w a n c xss) :
    Calls Try.prog 121 #[.slice a n c, .func (.func 128) #[] #[]] w fun e w' => ∃ z : Int, e = .returned (.int .i64 z) ∧ Hid (decide (0 ≤ z) = xss.any fun xs => !decide (Perm8 xs)) ∧ Below w.heap.size w w' := by
  have HN : Hid (xss.length = n) := ha.2.1
  have hnb := ha.2.2.1
  go_enter Try.func121, Try.ntmps121
  go_wp2
  go_loopw [8, 5] (fun i _ wr => ∃ k : Nat, k ≤ n ∧ i = .int .i64 k ∧ Hid (((xss.take k).any fun xs => !decide (Perm8 xs)) = false) ∧ Below w.heap.size w wr) (fun i _ _ => n - (intOf i).toNat)
  case atStart => exact ⟨0, Nat.zero_le _, rfl, by simp [Hid], Below.refl _ _⟩
  case round =>
    obtain ⟨k, hk, rfl, HT, hb⟩ := hrel
    by_cases hlt : k < n
    · obtain ⟨ab, ao, ra, rn, rc, xs, rfl, hx, hr, HX⟩ := (ha.below hb).at hlt
      have hC := arpClosure_any ra rn rc xs wr hr
      have HT' : Hid (((xss.take (k + 1)).any fun xs => !decide (Perm8 xs)) = !decide (Perm8 xs)) := by
        show _ = _
        rw [take_snoc HX.out, List.any_append, HT.out]; simp
      have HF : Hid (decide (Perm8 xs) = false → (xss.any fun xs => !decide (Perm8 xs)) = true) := fun h => List.any_eq_true.2 ⟨xs, List.mem_of_getElem? HX.out, by simp [h]⟩
      obtain ⟨b, hb'⟩ : ∃ b, b = decide (Perm8 xs) := ⟨_, rfl⟩
      rw [← hb'] at hC HT' HF
      clear hr hb'
      cases b with
      | true =>
        go_wp2_with fail
        refine hC.mono ?_
        rintro e w1 ⟨rfl, hb1⟩
        clear hC
        go_wp2
        go_roundw
        case rel => exact ⟨k + 1, by omega, by go_num, HT', hb.trans (hb1.mono hb.size)⟩
        case measure => simp [intOf]; omega
      | false =>
        go_wp2_with fail
        refine hC.mono ?_
        rintro e w1 ⟨rfl, hb1⟩
        clear hC
        go_wp2
        go_ret
        exact ⟨_, rfl, by show _ = _; rw [HF.out trivial]; simp, hb.trans (hb1.mono hb.size)⟩
    · obtain rfl : k = n := by omega
      have HE : Hid ((xss.any fun xs => !decide (Perm8 xs)) = false) := by
        have := HT.out
        rwa [List.take_of_length_le (by rw [HN.out]; exact Nat.le_refl _)] at this
      go_wp2
      go_ret
      exact ⟨_, rfl, by show _ = _; rw [HE.out]; simp, hb⟩

set_option maxHeartbeats 400000 in
theorem arpContainsFunc_any (a : Option Addr) (n c : Nat) (xss : List (List Int)) (w : World) (ha : IIs w a n c xss) :
    Calls Try.prog 73 #[.slice a n c, .func (.func 128) #[] #[]] w (RetV w (.bool (xss.any fun xs => !decide (Perm8 xs)))) := by
  go_enter Try.func73, Try.ntmps73
  go_wp2_with fail
  refine (arpIndexFunc_any a n c xss _ ha).mono ?_
  rintro e w1 ⟨z, rfl, HZ, hb1⟩
  go_wp2
  go_ret
  exact ⟨ret_bool (by rw [← HZ.out]), hb1⟩

set_option maxHeartbeats 400000 in
theorem arePerms_any (a : Option Addr) (n c : Nat) (xss : List (List Int)) (w : World) (ha : IIs w a n c xss) :
    Calls Try.prog 89 #[.slice a n c] w (RetV w (.bool (decide (AllP xss)))) := by
  have hC := arpContainsFunc_any a n c xss w ha
  rw [any_allP] at hC
  obtain ⟨b, hb⟩ : ∃ b, b = decide (AllP xss) := ⟨_, rfl⟩
  rw [← hb] at hC ⊢
  clear hb
  go_enter Try.func89, Try.ntmps89
  go_wp2_with fail
  refine hC.mono ?_
  rintro e w1 ⟨rfl, hb1⟩
  go_wp2
  go_ret
  exact ⟨ret_bool (by simp), hb1⟩

set_option maxHeartbeats 400000 in
theorem impl_OrderPerms (a : Option Addr) (n c : Nat) (xss : List (List Int)) (w : World) (h : IIs w a n c xss) :
    Calls Try.prog 33 #[.slice a n c] w (RetII w (ordP xss)) := by
  have hI := arePerms_any a n c xss w h
  by_cases hp : AllP xss
  · rw [decide_eq_true hp] at hI
    have e : ordP xss = ordL xss := if_pos hp
    rw [e]; clear e hp
    go_enter Try.func33, Try.ntmps33
    go_wp2_with fail
    refine hI.mono ?_
    rintro e w1 ⟨rfl, hb1⟩
    go_wp2_with fail
    refine (ordered_any a n c xss _ (h.below hb1) h.2.2.1).mono ?_
    rintro e w2 ⟨a1, n1, c1, rfl, ho1, hb2⟩
    go_wp2
    go_ret
    exact ⟨_, _, _, rfl, ho1.mono hb1.size (Nat.le_refl _), hb1.trans (hb2.mono hb1.size)⟩
  · rw [decide_eq_false hp] at hI
    have e : ordP xss = [] := if_neg hp
    rw [e]; clear e hp
    go_enter Try.func33, Try.ntmps33
    go_wp2_with fail
    refine hI.mono ?_
    rintro e w1 ⟨rfl, hb1⟩
    go_wp2
    go_ret
    exact ⟨_, _, _, rfl, OwnII.nil _ _ _, hb1⟩

set_option maxHeartbeats 1000000 in
theorem spec_OrderPerms (a : Option Addr) (n c : Nat) (xss : List (List Int)) (w : World) (h : IIs w a n c xss) :
    Calls Try.prog 34 #[.slice a n c] w (RetII w (ordP xss)) := by
  have HN : Hid (xss.length = n) := h.2.1
  have hnb := h.2.2.1
  have hI : ∀ W, Below w.heap.size w W → Calls Try.prog 90 #[.slice a n c] W (RetV W (.bool (decide (AllP xss)))) := fun W hb => l3All_any a n c xss W (h.below hb)
  by_cases hp : AllP xss
  · simp only [decide_eq_true hp] at hI
    have e : ordP xss = ordL xss := if_pos hp
    have HI := Lib.hid hI
    have HLx : Hid (∀ r ∈ xss, r.length ≤ 2097152) := fun r hr => by have := (hp r hr).1; omega
    rw [e]; clear e hp hI
    go_enter Try.func34, Try.ntmps34
    go_wp2
    go_loopw [3, 4] (fun v i wr => ∃ (k n1 c1 g1 : Nat), k ≤ n ∧ n1 ≤ k ∧ i = .int .i64 k ∧ v = .slice (some ⟨g1, 0, none⟩) n1 c1 ∧ OwnII wr w.heap.size wr.heap.size (some ⟨g1, 0, none⟩) n1 c1 (ordL (xss.take k)) ∧ Below w.heap.size w wr) (fun _ i _ => n - (intOf i).toNat)
    case atStart => exact ⟨0, 0, 0, _, Nat.zero_le _, Nat.le_refl _, rfl, rfl, OwnII.start w, below_alloc _ _⟩
    case round =>
      obtain ⟨k, n1, c1, g1, hk, hn1, rfl, rfl, ho, hb⟩ := hrel
      by_cases hlt : k < n
      · have HL : Hid (∀ r ∈ ordL (xss.take k), r.length ≤ 2097152) := fun r hr => HLx.out r (List.mem_of_mem_take (mem_ordL hr))
        go_wp2_with fail
        refine (HI.out _ hb).mono ?_
        rintro e w1 ⟨rfl, hb1⟩
        have hbw1 := hb.trans (hb1.mono hb.size)
        have ho1 : OwnII w1 w.heap.size w1.heap.size (some ⟨g1, 0, none⟩) n1 c1 (ordL (xss.take k)) := (ho.below hb1).mono (Nat.le_refl _) hb1.size
        obtain ⟨ab, ao, ra, rn, rc, xs, rfl, hx, hr, HX⟩ := (h.below hbw1).at hlt
        have HE : Hid (ordL (xss.take (k + 1)) = putL (ordL (xss.take k)) xs) := ordL_take HX.out
        have hP := l3Put_own g1 n1 c1 w.heap.size _ ra rn rc xs w1 ho1 (by omega) HL hr hbw1.size
        clear ho ho1 hb1 hr
        go_wp2_with fail
        refine hP.mono ?_
        rintro e w3 ⟨g3, n3, c3, rfl, ho3, _, hb3⟩
        rw [← HE.out] at ho3
        have hn3 : n3 ≤ k + 1 := by have h1 := ho3.len; have h2 := length_ordL (xss.take (k + 1)); rw [List.length_take] at h2; omega
        clear hP
        go_wp2
        go_roundw
        case rel => exact ⟨k + 1, n3, c3, g3, by omega, hn3, by go_num, rfl, ho3, hbw1.trans hb3⟩
        case measure => simp [intOf]; omega
      · obtain rfl : k = n := by omega
        have ho' : OwnII wr w.heap.size wr.heap.size (some ⟨g1, 0, none⟩) n1 c1 (ordL xss) := by rwa [List.take_of_length_le (by rw [HN.out]; exact Nat.le_refl _)] at ho
        clear ho
        go_wp2
        go_ret
        exact ⟨_, _, _, rfl, ho', hb⟩
  · simp only [decide_eq_false hp] at hI
    have e : ordP xss = [] := if_neg hp
    have hn0 : 0 < n := by
      rcases Nat.eq_zero_or_pos n with h0 | h0
      · exfalso; apply hp
        have h1 : xss = [] := List.eq_nil_of_length_eq_zero (by rw [HN.out, h0])
        rw [h1]; intro r hr; simp at hr
      · exact h0
    have HI := Lib.hid (hI _ (below_alloc w (.cells #[] 22)))
    rw [e]; clear e hp hI
    have HO := Lib.hid (OwnII.start w)
    have hb0 := below_alloc w (.cells #[] 22)
    go_enter Try.func34, Try.ntmps34
    go_wp2
    refine wp_loop_rounds 1 ?_
    rw [rounds_succ]
    go_wp2_with fail
    refine HI.out.mono ?_
    rintro e w1 ⟨rfl, hb1⟩
    have ho1 := HO.out.below hb1
    have hz := hb1.size
    go_wp2
    go_ret
    exact ⟨_, _, _, rfl, ho1.mono (Nat.le_refl _) hz, hb0.trans (hb1.mono (by simp))⟩
end Go.Proofs.Ytjhlianledgiiaa
