/- IsSeparable, of the program and of the reference. No condition. -/
import Derived.Test.YtjhlianledgiiaaF56
namespace Go.Proofs.Ytjhlianledgiiaa
open Go.RowKit

def big (r : List Int) : Bool := decide (2 < r.length)
def sepP (xs : List Int) : Bool := decide (Perm8 xs) && !((rtsF 8 xs).any big)
theorem any_ordL (l : List (List Int)) : (ordL l).any big = l.any big := by
  rw [Bool.eq_iff_iff, List.any_eq_true, List.any_eq_true]
  constructor
  · rintro ⟨x, h1, h2⟩; exact ⟨x, ((ordL_spec l).2 x).1 h1, h2⟩
  · rintro ⟨x, h1, h2⟩; exact ⟨x, ((ordL_spec l).2 x).2 h1, h2⟩
theorem takeSnoc {α : Type} {L : List α} {k : Nat} {x : α} (h : L[k]? = some x) : L.take (k + 1) = L.take k ++ [x] := by rw [List.take_add_one, h]; rfl

set_option maxHeartbeats 400000 in
theorem sepClosure_any (a : Option Addr) (n c : Nat) (xs : List Int) (w : World) (h : SlI w a n c xs) :
    Calls Try.prog 75 #[.slice a n c] w (RetV w (.bool (big xs))) := by
  have HN : Hid (xs.length = n) := h.2.1
  have hnb := h.2.2.1
  have e : big xs = decide ((2 : Int) < (n : Int)) := by unfold big; rw [HN.out]; congr 1; apply propext; omega
  rw [e]; clear e h
  go_enter Try.func75, Try.ntmps75
  go_wp2
  go_ret
  exact ⟨ret_bool (by simp), Below.refl _ _⟩

set_option maxHeartbeats 400000 in
theorem sepIndexFunc_any (a : Option Addr) (n c : Nat) (xss : List (List Int)) (w : World) (ha : IIs w a n c xss) :
    Calls Try.prog 121 #[.slice a n c, .func (.func 75) #[] #[]] w fun e w' => ∃ z : Int, e = .returned (.int .i64 z) ∧ Hid (decide (0 ≤ z) = xss.any big) ∧ Below w.heap.size w w' := by
  have HN : Hid (xss.length = n) := ha.2.1
  have hnb := ha.2.2.1
  go_enter Try.func121, Try.ntmps121
  go_wp2
  go_loopw [8, 5] (fun i _ wr => ∃ k : Nat, k ≤ n ∧ i = .int .i64 k ∧ Hid (((xss.take k).any big) = false) ∧ Below w.heap.size w wr) (fun i _ _ => n - (intOf i).toNat)
  case atStart => exact ⟨0, Nat.zero_le _, rfl, by simp [Hid], Below.refl _ _⟩
  case round =>
    obtain ⟨k, hk, rfl, HT, hb⟩ := hrel
    by_cases hlt : k < n
    · obtain ⟨ab, ao, ra, rn, rc, xs, rfl, hx, hr, HX⟩ := (ha.below hb).at hlt
      have hC := sepClosure_any ra rn rc xs wr hr
      have HT' : Hid (((xss.take (k + 1)).any big) = big xs) := by
        show _ = _
        rw [takeSnoc HX.out, List.any_append, HT.out]; simp
      have HF : Hid (big xs = true → (xss.any big) = true) := fun h => List.any_eq_true.2 ⟨xs, List.mem_of_getElem? HX.out, h⟩
      obtain ⟨b, hb'⟩ : ∃ b, b = big xs := ⟨_, rfl⟩
      rw [← hb'] at hC HT' HF
      clear hr hb'
      cases b with
      | false =>
        go_wp2_with fail
        refine hC.mono ?_
        rintro e w1 ⟨rfl, hb1⟩
        clear hC
        go_wp2
        go_roundw
        case rel => exact ⟨k + 1, by omega, by go_num, HT', hb.trans (hb1.mono hb.size)⟩
        case measure => simp [intOf]; omega
      | true =>
        go_wp2_with fail
        refine hC.mono ?_
        rintro e w1 ⟨rfl, hb1⟩
        clear hC
        go_wp2
        go_ret
        exact ⟨_, rfl, by show _ = _; rw [HF.out trivial]; simp, hb.trans (hb1.mono hb.size)⟩
    · obtain rfl : k = n := by omega
      have HE : Hid ((xss.any big) = false) := by
        have := HT.out
        rwa [List.take_of_length_le (by rw [HN.out]; exact Nat.le_refl _)] at this
      go_wp2
      go_ret
      exact ⟨_, rfl, by show _ = _; rw [HE.out]; simp, hb⟩

set_option maxHeartbeats 400000 in
theorem sepContainsFunc_any (a : Option Addr) (n c : Nat) (xss : List (List Int)) (w : World) (ha : IIs w a n c xss) :
    Calls Try.prog 73 #[.slice a n c, .func (.func 75) #[] #[]] w (RetV w (.bool (xss.any big))) := by
  go_enter Try.func73, Try.ntmps73
  go_wp2_with fail
  refine (sepIndexFunc_any a n c xss _ ha).mono ?_
  rintro e w1 ⟨z, rfl, HZ, hb1⟩
  go_wp2
  go_ret
  exact ⟨ret_bool (by rw [← HZ.out]), hb1⟩

set_option maxHeartbeats 1000000 in
theorem impl_IsSeparable (a : Option Addr) (n c : Nat) (xs : List Int) (w : World) (h : SlI w a n c xs) :
    Calls Try.prog 17 #[.slice a n c] w (RetV w (.bool (sepP xs))) := by
  have hI := impl_IsPerm a n c xs w h
  have HN : Hid (xs.length = n) := h.2.1
  by_cases hp : Perm8 xs
  · rw [decide_eq_true hp] at hI
    have HP : Hid (Perm8 xs) := hp
    have h8 : n ≤ 8 := by have h1 := hp.1; have h2 := HN.out; omega
    have e : sepP xs = !((rtsF 8 xs).any big) := by unfold sepP; rw [decide_eq_true hp]; simp
    obtain ⟨B, hB⟩ : ∃ B, B = (rtsF 8 xs).any big := ⟨_, rfl⟩
    rw [e, ← hB]
    have HB := Lib.hid hB
    clear e hp hB
    go_enter Try.func17, Try.ntmps17
    go_wp2_with fail
    refine hI.mono ?_
    rintro e w1 ⟨rfl, hb1⟩
    have hR := roots_any 8 (Nat.le_refl _) a n c xs w1 (h.below hb1) HP h8
    clear hI
    go_wp2_with fail
    refine hR.mono ?_
    rintro e w2 ⟨a2, n2, c2, rfl, ho2, hb2⟩
    have hii : IIs w2 a2 n2 c2 (rtsF 8 xs) := ho2.iis (by have h1 := ho2.len; have h2 := rtsF_bound 8 HP.out; omega) (fun r hr => by have := rtsF_rows 8 xs HP.out r hr; omega)
    have hC := sepContainsFunc_any a2 n2 c2 _ w2 hii
    rw [← HB.out] at hC
    clear hR ho2 hii
    go_wp2_with fail
    refine hC.mono ?_
    rintro e w3 ⟨rfl, hb3⟩
    have hbb := hb1.trans (hb2.mono hb1.size)
    have hbc := hbb.trans (hb3.mono hbb.size)
    clear hC
    go_wp2
    go_ret
    exact ⟨ret_bool (by simp), hbc⟩
  · rw [decide_eq_false hp] at hI
    have e : sepP xs = false := by unfold sepP; rw [decide_eq_false hp]; rfl
    rw [e]; clear e hp
    go_enter Try.func17, Try.ntmps17
    go_wp2_with fail
    refine hI.mono ?_
    rintro e w1 ⟨rfl, hb1⟩
    clear hI
    go_wp2
    go_ret
    exact ⟨ret_bool (by simp), hb1⟩

set_option maxHeartbeats 1000000 in
theorem spec_IsSeparable (a : Option Addr) (n c : Nat) (xs : List Int) (w : World) (h : SlI w a n c xs) :
    Calls Try.prog 16 #[.slice a n c] w (RetV w (.bool (sepP xs))) := by
  have hR := spec_RootsIn a n c xs w h
  have hbd := bound_rooP xs
  have hE : sepP xs = (decide (Perm8 xs) && !((rooP xs).any big)) := by
    unfold sepP rooP
    by_cases hp : Perm8 xs
    · rw [if_pos hp, any_ordL]
    · rw [decide_eq_false hp]; rfl
  obtain ⟨L, hL⟩ : ∃ L, L = rooP xs := ⟨_, rfl⟩
  rw [← hL] at hR hE hbd
  obtain ⟨P, hP⟩ : ∃ P, P = decide (Perm8 xs) := ⟨_, rfl⟩
  have HPI : Hid (∀ W, SlI W a n c xs → Calls Try.prog 44 #[.slice a n c] W (RetV W (.bool P))) := fun W hW => by rw [hP]; exact spec_IsPerm a n c xs W hW
  rw [← hP] at hE
  obtain ⟨D, hD⟩ : ∃ D, D = sepP xs := ⟨_, rfl⟩
  rw [← hD] at hE ⊢
  have HE := Lib.hid hE
  have HBD := Lib.hid hbd
  clear hE hD hP hL hbd
  go_enter Try.func16, Try.ntmps16
  go_wp2_with fail
  refine hR.mono ?_
  rintro e w1 ⟨a1, n1, c1, rfl, ho, hb1⟩
  have hii : IIs w1 a1 n1 c1 L := ho.iisT HBD.out
  have HL : Hid (L.length = n1) := hii.2.1
  have hn1 := hii.2.2.1
  clear hR ho
  go_wp2
  go_loop [4] (fun i => ∃ k : Nat, k ≤ n1 ∧ i = .int .i64 k ∧ Hid ((L.take k).any big = false)) (fun i => n1 - (intOf i).toNat)
  case atStart => exact ⟨0, Nat.zero_le _, rfl, by simp [Hid]⟩
  case round =>
    obtain ⟨k, hk, rfl, HT⟩ := hrel
    by_cases hlt : k < n1
    · obtain ⟨ab, ao, ra, rn, rc, r, rfl, hx, hr, HX⟩ := hii.at hlt
      have hrl : big r = decide ((2 : Int) < (rn : Int)) := by unfold big; rw [hr.2.1]; congr 1; apply propext; omega
      by_cases hbg : (2 : Int) < (rn : Int)
      · have HF : Hid (L.any big = true) := List.any_eq_true.2 ⟨r, List.mem_of_getElem? HX.out, by rw [hrl]; exact decide_eq_true hbg⟩
        clear hrl hr
        go_wp2
        go_ret
        exact ⟨ret_bool (by rw [HE.out, HF.out]; simp), hb1⟩
      · have HT' : Hid ((L.take (k + 1)).any big = false) := by
          show _ = _
          rw [takeSnoc HX.out, List.any_append, HT.out]; simp [hrl, hbg]
        clear hrl hr
        go_wp2
        go_round
        case rel => exact ⟨k + 1, by omega, by go_num, HT'⟩
        case measure => simp [intOf]; omega
    · obtain rfl : k = n1 := by omega
      have HF : Hid (L.any big = false) := by
        have := HT.out
        rwa [List.take_of_length_le (by rw [HL.out]; exact Nat.le_refl _)] at this
      have hI := HPI.out w1 (h.below hb1)
      go_wp2_with fail
      refine hI.mono ?_
      rintro e w2 ⟨rfl, hb2⟩
      go_wp2
      go_ret
      exact ⟨ret_bool (by rw [HE.out, HF.out]; simp), hb1.trans (hb2.mono hb1.size)⟩
end Go.Proofs.Ytjhlianledgiiaa
