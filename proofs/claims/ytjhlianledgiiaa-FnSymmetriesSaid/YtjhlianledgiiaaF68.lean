/- SymmetryClass and LeastSymmetry, of the program and of the reference. No condition. -/
import Derived.Test.YtjhlianledgiiaaF67
namespace Go.Proofs.Ytjhlianledgiiaa
open Go.RowKit

def symC (xs : List Int) : List (List Int) := (List.range 8).map fun k => symL k xs
def sycP (xs : List Int) : List (List Int) := if Perm8 xs then ordL (symC xs) else []
theorem symC_at {xs : List Int} {k : Nat} (h : k < 8) : (symC xs)[k]? = some (symL k xs) := by simp [symC, h]
theorem length_symC (xs : List Int) : (symC xs).length = 8 := by simp [symC]
theorem rows_symC {xs : List Int} (h : xs.length ≤ 8) : ∀ r ∈ symC xs, r.length ≤ 8 := by
  intro r hr
  obtain ⟨k, _, rfl⟩ := List.mem_map.1 hr
  rw [length_symL]; exact h
theorem bound_sycP (xs : List Int) : totL (sycP xs) ≤ 2097152 ∧ (sycP xs).length ≤ 2097152 := by
  unfold sycP; split
  · rename_i h
    refine bound_rows (k := 8) (m := 8) ?_ (fun r hr => rows_symC h.1 r (mem_ordL hr)) (by omega) (by omega)
    have := length_ordL (symC xs); rw [length_symC] at this; omega
  · simp [totL]

set_option maxHeartbeats 1000000 in
theorem impl_SymmetryClass (a : Option Addr) (n c : Nat) (xs : List Int) (w : World) (h : SlI w a n c xs) :
    Calls Try.prog 27 #[.slice a n c] w (RetII w (sycP xs)) := by
  have hI := impl_IsPerm a n c xs w h
  by_cases hp : Perm8 xs
  · rw [decide_eq_true hp] at hI
    have h8 : n ≤ 8 := by have h1 := hp.1; have h2 := h.2.1; omega
    have HP : Hid (IsPermL xs) := hp.2
    have HR : Hid (∀ r ∈ symC xs, r.length ≤ 8) := rows_symC hp.1
    have e : sycP xs = ordL (symC xs) := if_pos hp
    rw [e]; clear e hp
    go_enter Try.func27, Try.ntmps27
    go_wp2_with fail
    refine hI.mono ?_
    rintro e w0 ⟨rfl, hb0⟩
    have hs0 := h.below hb0
    clear hI h
    go_wp2
    go_loopw [3, 4, 9] (fun v _ i wr => ∃ (k c1 : Nat) (a1 : Option Addr), k ≤ 8 ∧ i = .int .i64 k ∧ v = .slice a1 k c1 ∧ OwnII wr w0.heap.size wr.heap.size a1 k c1 ((symC xs).take k) ∧ Below w0.heap.size w0 wr) (fun _ _ i _ => 8 - (intOf i).toNat)
    case atStart => exact ⟨0, 0, _, Nat.zero_le _, rfl, rfl, OwnII.start w0, below_alloc _ _⟩
    case round =>
      obtain ⟨k, c1, a1, hk, rfl, rfl, ho, hb⟩ := hrel
      by_cases hlt : k < 8
      · have hC := symmetry_any a n c k xs wr (hs0.below hb) HP (by omega)
        have HE : Hid ((symC xs).take (k + 1) = (symC xs).take k ++ [symL k xs]) := take_snoc (symC_at hlt)
        go_wp2_with fail
        refine hC.mono ?_
        rintro e w1 ⟨a4, n4, c4, rfl, ho4, hb4⟩
        have ho1 := ho.below hb4
        have hsz := hb4.size
        go_wp2_with (at_builtin; refine wpList_appII rfl _ _ rfl w0.heap.size _ _ _ _ _ _ rfl ho1 _ _ _ _ ho4.ins (Nat.le_refl _) hb.size _ rfl rfl (by omega) (by have := hb.size; omega) (by omega) ?_)
        intro a' c' w2 g1 g2 _
        have hbb := (hb.trans (hb4.mono hb.size)).trans g2
        clear ho4 ho1 hb4 hC
        go_wp2
        go_roundw
        case rel => exact ⟨k + 1, c', a', by omega, by go_num, rfl, by rw [HE.out]; exact g1, hbb⟩
        case measure => simp [intOf]; omega
      · have hk8 : 8 ≤ k := by omega
        have ho' : OwnII wr w0.heap.size wr.heap.size a1 k c1 (symC xs) := by rwa [List.take_of_length_le (by rw [length_symC]; exact hk8)] at ho
        have hS := ordered_any a1 k c1 (symC xs) wr (ho'.iis (by omega) (fun r hr => by have := HR.out r hr; omega)) (by omega)
        clear ho ho'
        go_wp2_with fail
        refine hS.mono ?_
        rintro e w2 ⟨a2, n2, c2, rfl, ho2, hb2⟩
        have hbw : Below w0.heap.size w0 w2 := hb.trans (hb2.mono hb.size)
        go_wp2
        go_ret
        exact ⟨_, _, _, rfl, ho2.mono (Nat.le_trans hb0.size hb.size) (Nat.le_refl _), hb0.trans (hbw.mono hb0.size)⟩
  · rw [decide_eq_false hp] at hI
    have e : sycP xs = [] := if_neg hp
    rw [e]; clear e hp
    go_enter Try.func27, Try.ntmps27
    go_wp2_with fail
    refine hI.mono ?_
    rintro e w1 ⟨rfl, hb1⟩
    go_wp2
    go_ret
    exact ⟨_, _, _, rfl, OwnII.nil _ _ _, hb1⟩

set_option maxHeartbeats 1000000 in
theorem spec_SymmetryClass (a : Option Addr) (n c : Nat) (xs : List Int) (w : World) (h : SlI w a n c xs) :
    Calls Try.prog 32 #[.slice a n c] w (RetII w (sycP xs)) := by
  have HN : Hid (xs.length = n) := h.2.1
  have hI : ∀ W, Below w.heap.size w W → Calls Try.prog 44 #[.slice a n c] W (RetV W (.bool (decide (Perm8 xs)))) := fun W hb => spec_IsPerm a n c xs W (h.below hb)
  by_cases hp : Perm8 xs
  · simp only [decide_eq_true hp] at hI
    have h8 : n ≤ 8 := by have h1 := hp.1; have h2 := h.2.1; omega
    have e : sycP xs = ordL (symC xs) := if_pos hp
    have HI := Lib.hid hI
    have HPm : Hid (IsPermL xs) := hp.2
    have HR : Hid (∀ r ∈ symC xs, r.length ≤ 8) := rows_symC hp.1
    rw [e]; clear e hp hI
    go_enter Try.func32, Try.ntmps32
    go_wp2
    go_loopw [3, 4] (fun v i wr => ∃ (k n1 c1 g1 : Nat), k ≤ 8 ∧ n1 ≤ k ∧ i = .int .i64 k ∧ v = .slice (some ⟨g1, 0, none⟩) n1 c1 ∧ OwnII wr w.heap.size wr.heap.size (some ⟨g1, 0, none⟩) n1 c1 (ordL ((symC xs).take k)) ∧ Below w.heap.size w wr) (fun _ i _ => 8 - (intOf i).toNat)
    case atStart => exact ⟨0, 0, 0, _, Nat.zero_le _, Nat.le_refl _, rfl, rfl, OwnII.start w, below_alloc _ _⟩
    case round =>
      obtain ⟨k, n1, c1, g1, hk, hn1, rfl, rfl, ho, hb⟩ := hrel
      by_cases hlt : k < 8
      · have HE : Hid (ordL ((symC xs).take (k + 1)) = putL (ordL ((symC xs).take k)) (symL k xs)) := ordL_take (symC_at hlt)
        have HL : Hid (∀ r ∈ ordL ((symC xs).take k), r.length ≤ 2097152) := fun r hr => by have := HR.out r (List.mem_of_mem_take (mem_ordL hr)); omega
        go_wp2_with fail
        refine (HI.out _ hb).mono ?_
        rintro e w1 ⟨rfl, hb1⟩
        have hbw1 := hb.trans (hb1.mono hb.size)
        have ho1 := ho.below hb1
        have hz1 := hb1.size
        go_wp2_with fail
        refine (l3Symmetry_any a n c k xs w1 (h.below hbw1) HPm (by omega)).mono ?_
        rintro e w2 ⟨a4, n4, c4, rfl, ho4, hb4⟩
        have hz2 := hb4.size
        have hbw2 := hbw1.trans (hb4.mono hbw1.size)
        have ho2 : OwnII w2 w.heap.size w2.heap.size (some ⟨g1, 0, none⟩) n1 c1 (ordL ((symC xs).take k)) := (ho1.below hb4).mono (Nat.le_refl _) (by omega)
        have hn4 : n4 ≤ 8 := by have h1 := ho4.1; have h2 := length_symL k xs; have h3 := HN.out; omega
        have hP := l3Put_own g1 n1 c1 w.heap.size _ a4 n4 c4 _ w2 ho2 (by omega) HL (ho4.sl (by omega)) hbw2.size
        clear ho ho1 ho2 ho4 hb1 hb4
        go_wp2_with fail
        refine hP.mono ?_
        rintro e w3 ⟨g3, n3, c3, rfl, ho3, _, hb3⟩
        rw [← HE.out] at ho3
        have hn3 : n3 ≤ k + 1 := by have h1 := ho3.len; have h2 := length_ordL ((symC xs).take (k + 1)); rw [List.length_take] at h2; omega
        clear hP
        go_wp2
        go_roundw
        case rel => exact ⟨k + 1, n3, c3, g3, by omega, hn3, by go_num, rfl, ho3, hbw2.trans hb3⟩
        case measure => simp [intOf]; omega
      · have hk8 : 8 ≤ k := by omega
        have ho' : OwnII wr w.heap.size wr.heap.size (some ⟨g1, 0, none⟩) n1 c1 (ordL (symC xs)) := by rwa [List.take_of_length_le (by rw [length_symC]; exact hk8)] at ho
        clear ho
        go_wp2
        go_ret
        exact ⟨_, _, _, rfl, ho', hb⟩
  · simp only [decide_eq_false hp] at hI
    have e : sycP xs = [] := if_neg hp
    have HI := Lib.hid (hI _ (below_alloc w (.cells #[] 22)))
    rw [e]; clear e hp hI
    have HO := Lib.hid (OwnII.start w)
    have hb0 := below_alloc w (.cells #[] 22)
    go_enter Try.func32, Try.ntmps32
    go_wp2
    refine wp_loop_rounds 1 ?_
    rw [rounds_succ]
    go_wp2_with fail
    refine HI.out.mono ?_
    rintro e w1 ⟨rfl, hb1⟩
    have ho1 := HO.out.below hb1
    have hz := hb1.size
    go_wp2
    go_ret
    exact ⟨_, _, _, rfl, ho1.mono (Nat.le_refl _) hz, hb0.trans (hb1.mono (by simp))⟩

/-! ### LeastSymmetry -/
def lstP (xs : List Int) : List Int := (sycP xs).headD []
theorem length_lstP (xs : List Int) : (lstP xs).length ≤ 8 := by
  unfold lstP
  cases h : sycP xs with
  | nil => simp
  | cons r l =>
    have hr : r ∈ sycP xs := by rw [h]; simp
    unfold sycP at hr
    split at hr
    · rename_i hp; exact rows_symC hp.1 r (mem_ordL hr)
    · simp at hr

set_option maxHeartbeats 600000 in
theorem impl_LeastSymmetry (a : Option Addr) (n c : Nat) (xs : List Int) (w : World) (h : SlI w a n c xs) :
    Calls Try.prog 37 #[.slice a n c] w (RetI w (lstP xs)) := by
  have hS := impl_SymmetryClass a n c xs w h
  have HB : Hid (totL (sycP xs) ≤ 2097152 ∧ (sycP xs).length ≤ 2097152) := bound_sycP xs
  have HE : Hid (lstP xs = (sycP xs).headD []) := rfl
  generalize lstP xs = R at *
  generalize sycP xs = l at *
  go_enter Try.func37, Try.ntmps37
  go_wp2_with fail
  refine hS.mono ?_
  rintro e w1 ⟨a1, n1, c1, rfl, ho1, hb1⟩
  have HL : Hid (l.length = n1) := ho1.len
  clear hS
  by_cases h0 : 0 < n1
  · obtain ⟨g, ra, rn, rc, r0, rfl, hcell, hrow, HX, _⟩ := ho1.row h0
    have g1 : ((n1 : Int) == 0) = false := by rw [beq_eq_false_iff_ne]; omega
    have HR : Hid (R = r0) := by
      show _ = _; rw [HE.out]
      have h1 := HX.out
      cases l with
      | nil => simp at h1
      | cons x l => simpa using h1
    clear ho1
    go_wp2
    go_ret
    exact ⟨_, _, _, rfl, by rw [HR.out]; exact hrow.1, hb1⟩
  · have h1 : n1 ≤ 0 := by omega
    have g1 : ((n1 : Int) == 0) = true := by rw [beq_iff_eq]; omega
    have HR : Hid (R = []) := by
      show _ = _; rw [HE.out]
      rw [List.eq_nil_of_length_eq_zero (by rw [HL.out]; omega : l.length = 0)]; rfl
    clear ho1
    go_wp2
    go_ret
    exact ⟨_, _, _, rfl, by rw [HR.out]; exact OwnI.nil _ _, hb1⟩

set_option maxHeartbeats 600000 in
theorem spec_LeastSymmetry (a : Option Addr) (n c : Nat) (xs : List Int) (w : World) (h : SlI w a n c xs) :
    Calls Try.prog 38 #[.slice a n c] w (RetI w (lstP xs)) := by
  have hS := spec_SymmetryClass a n c xs w h
  have HB : Hid (totL (sycP xs) ≤ 2097152 ∧ (sycP xs).length ≤ 2097152) := bound_sycP xs
  have HE : Hid (lstP xs = (sycP xs).headD []) := rfl
  generalize lstP xs = R at *
  generalize sycP xs = l at *
  go_enter Try.func38, Try.ntmps38
  go_wp2_with fail
  refine hS.mono ?_
  rintro e w1 ⟨a1, n1, c1, rfl, ho1, hb1⟩
  have HL : Hid (l.length = n1) := ho1.len
  clear hS
  by_cases h0 : 0 < n1
  · obtain ⟨g, ra, rn, rc, r0, rfl, hcell, hrow, HX, _⟩ := ho1.row h0
    have g1 : ((n1 : Int) == 0) = false := by rw [beq_eq_false_iff_ne]; omega
    have HR : Hid (R = r0) := by
      show _ = _; rw [HE.out]
      have h1 := HX.out
      cases l with
      | nil => simp at h1
      | cons x l => simpa using h1
    clear ho1
    go_wp2
    go_ret
    exact ⟨_, _, _, rfl, by rw [HR.out]; exact hrow.1, hb1⟩
  · have h1 : n1 ≤ 0 := by omega
    have g1 : ((n1 : Int) == 0) = true := by rw [beq_iff_eq]; omega
    have HR : Hid (R = []) := by
      show _ = _; rw [HE.out]
      rw [List.eq_nil_of_length_eq_zero (by rw [HL.out]; omega : l.length = 0)]; rfl
    clear ho1
    have ho := OwnI.lit0 w1
    go_wp2
    go_ret
    exact ⟨_, _, _, rfl, by rw [HR.out]; exact ho.mono hb1.size, hb1.alloc hb1.size _⟩
end Go.Proofs.Ytjhlianledgiiaa
