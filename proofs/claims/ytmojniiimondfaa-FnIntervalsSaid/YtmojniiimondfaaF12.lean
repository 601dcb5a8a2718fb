/- The walks of the intervals of a permutation, of the program and of the reference. Condition: at most eight numbers from 0 to 2^20. -/
import Derived.Test.YtmojniiimondfaaF07
import Derived.Test.YtmojniiimondfaaII
namespace Go.Proofs.Ytmojniiimondfaa
open Go.RowKit

/-- The intervals that begin at f, with 2 .. j + 1 places. -/
def ivRow (xs : List Int) (f : Nat) : Nat → List (List Int)
  | 0 => []
  | j + 1 => ivRow xs f j ++ (if j + 2 < xs.length ∧ runB xs f (j + 2) = true then [[(f : Int) + 1, (f : Int) + ((j : Int) + 2)]] else [])
def ivAll (xs : List Int) : Nat → List (List Int)
  | 0 => []
  | f + 1 => ivAll xs f ++ ivRow xs f (xs.length - 1 - f)
/-- All intervals of more than one place and not of all. -/
def ivs (xs : List Int) : List (List Int) := ivAll xs xs.length
theorem length_ivRow (xs : List Int) (f j : Nat) : (ivRow xs f j).length ≤ j := by
  induction j with
  | zero => simp [ivRow]
  | succ j ih => simp only [ivRow, List.length_append]; split <;> simp <;> omega
theorem length_ivAll (xs : List Int) (f : Nat) : (ivAll xs f).length ≤ f * xs.length := by
  induction f with
  | zero => simp [ivAll]
  | succ f ih =>
    simp only [ivAll, List.length_append]
    have := length_ivRow xs f (xs.length - 1 - f)
    rw [Nat.succ_mul]; omega
theorem ivAll_bd {xs : List Int} {n f : Nat} (hn : xs.length = n) (h8 : n ≤ 8) (hf : f ≤ n) : (ivAll xs f).length ≤ 64 := by
  have h1 := length_ivAll xs f
  have : f * xs.length ≤ 8 * 8 := Nat.mul_le_mul (by omega) (by omega)
  omega
theorem rows2_ivRow (xs : List Int) (f j : Nat) : ∀ r ∈ ivRow xs f j, r.length = 2 := by
  induction j with
  | zero => simp [ivRow]
  | succ j ih =>
    intro r hr
    simp only [ivRow] at hr
    rcases List.mem_append.1 hr with hr | hr
    · exact ih r hr
    · split at hr
      · simp at hr; subst hr; rfl
      · cases hr
theorem rows2_ivAll (xs : List Int) (f : Nat) : ∀ r ∈ ivAll xs f, r.length = 2 := by
  induction f with
  | zero => simp [ivAll]
  | succ f ih =>
    intro r hr
    simp only [ivAll] at hr
    rcases List.mem_append.1 hr with hr | hr
    · exact ih r hr
    · exact rows2_ivRow _ _ _ r hr

theorem OwnI.lit2 (w : World) (x y : Int) : OwnI (w.alloc (.cells #[.int .i64 x, .int .i64 y] 3)) w.heap.size (some ⟨w.heap.size, 0, none⟩) 2 2 [x, y] :=
  ⟨rfl, World.ownsRow_lit w #[.int .i64 x, .int .i64 y] 2 (Nat.le_refl _) (by unfold maxLen; omega) rfl⟩
theorem OwnII.start (w : World) : OwnII (w.alloc (.cells #[] 28)) w.heap.size (w.alloc (.cells #[] 28)).heap.size (some ⟨w.heap.size, 0, none⟩) 0 0 [] :=
  (OwnII.lit0 w).mono (Nat.le_refl _) (by simp)

set_option maxHeartbeats 1000000 in
theorem intervals_any (a : Option Addr) (n c : Nat) (xs : List Int) (w : World) (h : SlI w a n c xs) (hp : Hid (Upb 1048576 xs)) (h8 : n ≤ 8) :
    Calls Try.prog 81 #[.slice a n c] w (RetII w (ivs xs)) := by
  have HN : Hid (xs.length = n) := h.2.1
  have hnc := h.2.2.2.1
  go_enter Try.func81, Try.ntmps81
  go_wp2
  go_loopw [3, 5, 9] (fun v _ i wr => ∃ (k kk c : Nat) (a : Option Addr), k ≤ n ∧ kk ≤ 64 ∧ i = .int .i64 k ∧ v = .slice a kk c ∧ OwnII wr w.heap.size wr.heap.size a kk c (ivAll xs k) ∧ Below w.heap.size w wr) (fun _ _ i _ => n - (intOf i).toNat)
  case atStart => exact ⟨0, 0, 0, _, Nat.zero_le _, Nat.zero_le _, rfl, rfl, OwnII.start w, below_alloc _ _⟩
  case round =>
    obtain ⟨f, kk, c1, a1, hk, hkk, rfl, rfl, ho, hb⟩ := hrel
    by_cases hlt : f < n
    · obtain ⟨wo, rfl⟩ : ∃ wo : World, wo = wr := ⟨_, rfl⟩
      go_wp2
      go_loopw [3, 5] (fun v i wr => ∃ (j kk c : Nat) (a : Option Addr), f + j + 1 ≤ n ∧ kk ≤ 64 + j ∧ i = .int .i64 ((f : Int) + ((j : Int) + 2)) ∧ v = .slice a kk c ∧ OwnII wr w.heap.size wr.heap.size a kk c (ivAll xs f ++ ivRow xs f j) ∧ Below w.heap.size w wr) (fun _ i _ => n + 2 - (intOf i).toNat)
      case atStart => exact ⟨0, kk, c1, a1, by omega, by omega, by go_num, rfl, by simpa [ivRow] using ho, hb⟩
      case round =>
        obtain ⟨j, kk, c1, a1, hj, hkk, rfl, rfl, ho, hb⟩ := hrel
        by_cases hlj : f + (j + 2) ≤ n
        · have hgo : (f : Int) + ((j : Int) + 2) ≤ (n : Int) := by omega
          by_cases hm : j + 2 < n
          · have hm' : (f : Int) + ((j : Int) + 2) - (f : Int) < (n : Int) := by omega
            have hI := isInterval_any a n c f (j + 2) xs _ (h.below hb) hp (by omega) hlj ((f : Int) + ((j : Int) + 2)) (by omega)
            by_cases hr : runB xs f (j + 2) = true
            · have hx : Hid (ivRow xs f (j + 1) = ivRow xs f j ++ [[(f : Int) + 1, (f : Int) + ((j : Int) + 2)]]) := by
                show _ = _; simp only [ivRow]; rw [if_pos ⟨by rw [HN.out]; exact hm, hr⟩]
              rw [hr] at hI
              have HI := Lib.hid hI; clear hI hr
              go_wp2_with fail
              refine HI.out.mono ?_
              rintro e w1 ⟨rfl, rfl⟩
              have hrow := (OwnI.lit2 w1 ((f : Int) + 1) ((f : Int) + ((j : Int) + 2))).ins
              have ho1 := ho.below (below_alloc w1 (.cells #[.int .i64 ((f : Int) + 1), .int .i64 ((f : Int) + ((j : Int) + 2))] 3))
              have hb1 := hb.alloc hb.size (.cells #[.int .i64 ((f : Int) + 1), .int .i64 ((f : Int) + ((j : Int) + 2))] 3)
              go_wp2_with (at_builtin; refine wpList_appII rfl _ _ rfl w.heap.size _ _ _ _ _ _ rfl ho1 _ _ _ _ hrow (Nat.le_refl _) hb.size _ rfl (by simp) (by omega) hb1.size (by simp) ?_)
              intro a' c' w2 g1 g2 _
              clear hrow ho1
              go_wp2
              go_roundw
              case rel => exact ⟨j + 1, kk + 1, c', a', by omega, by omega, by go_num, rfl, by rw [hx.out]; exact g1, hb1.trans g2⟩
              case measure => simp [intOf]; omega
            · have hx : Hid (ivRow xs f (j + 1) = ivRow xs f j) := by
                show _ = _; simp only [ivRow]; rw [if_neg (fun hc => hr hc.2), List.append_nil]
              rw [Bool.not_eq_true] at hr
              rw [hr] at hI
              have HI := Lib.hid hI; clear hI hr
              go_wp2_with fail
              refine HI.out.mono ?_
              rintro e w1 ⟨rfl, rfl⟩
              go_wp2
              go_roundw
              case rel => exact ⟨j + 1, kk, c1, a1, by omega, by omega, by go_num, rfl, by rw [hx.out]; exact ho, hb⟩
              case measure => simp [intOf]; omega
          · have hm' : ¬ ((f : Int) + ((j : Int) + 2) - (f : Int) < (n : Int)) := by omega
            have hx : Hid (ivRow xs f (j + 1) = ivRow xs f j) := by
              show _ = _; simp only [ivRow]; rw [if_neg (fun hc => hm (by rw [← HN.out]; exact hc.1)), List.append_nil]
            go_wp2
            go_roundw
            case rel => exact ⟨j + 1, kk, c1, a1, by omega, by omega, by go_num, rfl, by rw [hx.out]; exact ho, hb⟩
            case measure => simp [intOf]; omega
        · have hgo : ¬ ((f : Int) + ((j : Int) + 2) ≤ (n : Int)) := by omega
          have hx : Hid (ivAll xs (f + 1) = ivAll xs f ++ ivRow xs f j) := by
            show _ = _; simp only [ivAll]; rw [HN.out, show n - 1 - f = j by omega]
          have hkk' : kk ≤ 64 := by
            have h1 := ho.len
            rw [← hx.out] at h1
            have h2 := ivAll_bd (f := f + 1) HN.out h8 (by omega)
            omega
          go_wp2
          go_roundw
          case rel => exact ⟨f + 1, kk, c1, a1, by omega, hkk', by go_num, rfl, by rw [hx.out]; exact ho, hb⟩
          case measure => simp [intOf]; omega
    · have : f = n := by omega
      subst this
      have e : ivAll xs f = ivs xs := by unfold ivs; rw [HN.out]
      rw [e] at ho
      go_wp2
      go_ret
      exact ⟨_, _, _, rfl, ho, hb⟩

def ivsP (xs : List Int) : List (List Int) := if Perm8 xs then ivs xs else []

set_option maxHeartbeats 2000000 in
theorem spec_IntervalsOf (a : Option Addr) (n c : Nat) (xs : List Int) (w : World) (h : SlI w a n c xs) :
    Calls Try.prog 34 #[.slice a n c] w (RetII w (ivsP xs)) := by
  have HN : Hid (xs.length = n) := h.2.1
  have hnc := h.2.2.2.1
  have hnb := h.2.2.1
  by_cases hpp : Perm8 xs
  · have e : ivsP xs = ivs xs := if_pos hpp
    have HP8 : Hid (decide (Perm8 xs) = true) := decide_eq_true hpp
    have hp : Hid (Upb 1048576 xs) := hpp.upb
    have h8 : n ≤ 8 := by have h1 := hpp.1; have h2 := HN.out; omega
    rw [e]
    clear e hpp
    go_enter Try.func34, Try.ntmps34
    go_wp2
    go_loopw [3, 4, 5] (fun v i _ wr => ∃ (k kk c : Nat) (a : Option Addr), k ≤ n ∧ kk ≤ 64 ∧ i = .int .i64 k ∧ v = .slice a kk c ∧ OwnII wr w.heap.size wr.heap.size a kk c (ivAll xs k) ∧ Below w.heap.size w wr) (fun _ i _ _ => n - (intOf i).toNat)
    case atStart => exact ⟨0, 0, 0, _, Nat.zero_le _, Nat.zero_le _, rfl, rfl, OwnII.start w, below_alloc _ _⟩
    case round =>
      obtain ⟨f, kk, c1, a1, hk, hkk, rfl, rfl, ho0, hb0⟩ := hrel
      by_cases hlt : f < n
      · have hI0 := spec_IsPerm a n c xs _ (h.below hb0)
        rw [HP8.out] at hI0
        go_wp2_with fail
        refine hI0.mono ?_
        rintro e wo ⟨rfl, hbo⟩
        have hb := hb0.trans (hbo.mono hb0.size)
        have ho := (ho0.below hbo).mono (Nat.le_refl _) hbo.size
        clear ho0 hb0 hI0
        go_wp2
        go_loopw [3, 5] (fun v i wr => ∃ (j kk c : Nat) (a : Option Addr), f + j + 1 ≤ n ∧ kk ≤ 64 + j ∧ i = .int .i64 ((f : Int) + ((j : Int) + 1)) ∧ v = .slice a kk c ∧ OwnII wr w.heap.size wr.heap.size a kk c (ivAll xs f ++ ivRow xs f j) ∧ Below w.heap.size w wr) (fun _ i _ => n + 2 - (intOf i).toNat)
        case atStart => exact ⟨0, kk, c1, a1, by omega, by omega, by go_num, rfl, by simpa [ivRow] using ho, hb⟩
        case round =>
          obtain ⟨j, kk, c1, a1, hj, hkk, rfl, rfl, ho, hb⟩ := hrel
          by_cases hlj : f + (j + 2) ≤ n
          · have hgo : (f : Int) + ((j : Int) + 1) < (n : Int) := by omega
            by_cases hm : j + 2 < n
            · have hm' : (f : Int) + ((j : Int) + 1) - (f : Int) + 1 < (n : Int) := by omega
              have hI := l5Run_any a n c f (j + 2) xs _ (h.below hb) hp (by omega) hlj ((f : Int) + ((j : Int) + 1)) (by omega)
              by_cases hr : runB xs f (j + 2) = true
              · have hx : Hid (ivRow xs f (j + 1) = ivRow xs f j ++ [[(f : Int) + 1, (f : Int) + ((j : Int) + 2)]]) := by
                  show _ = _; simp only [ivRow]; rw [if_pos ⟨by rw [HN.out]; exact hm, hr⟩]
                rw [hr] at hI
                have HI := Lib.hid hI; clear hI hr
                have HE : Hid ((f : Int) + ((j : Int) + 1) + 1 = (f : Int) + ((j : Int) + 2)) := by show _ = _; omega
                go_wp2_with fail
                refine HI.out.mono ?_
                rintro e w1 ⟨rfl, rfl⟩
                have hrow := (OwnI.lit2 w1 ((f : Int) + 1) ((f : Int) + ((j : Int) + 1) + 1)).ins
                have ho1 := ho.below (below_alloc w1 (.cells #[.int .i64 ((f : Int) + 1), .int .i64 ((f : Int) + ((j : Int) + 1) + 1)] 3))
                have hb1 := hb.alloc hb.size (.cells #[.int .i64 ((f : Int) + 1), .int .i64 ((f : Int) + ((j : Int) + 1) + 1)] 3)
                go_wp2_with (at_builtin; refine wpList_appII rfl _ _ rfl w.heap.size _ _ _ _ _ _ rfl ho1 _ _ _ _ hrow (Nat.le_refl _) hb.size _ rfl (by simp) (by omega) hb1.size (by simp) ?_)
                intro a' c' w2 g1 g2 _
                clear hrow ho1
                go_wp2
                go_roundw
                case rel => exact ⟨j + 1, kk + 1, c', a', by omega, by omega, by go_num, rfl, by rw [hx.out, ← HE.out]; exact g1, hb1.trans g2⟩
                case measure => simp [intOf]; omega
              · have hx : Hid (ivRow xs f (j + 1) = ivRow xs f j) := by
                  show _ = _; simp only [ivRow]; rw [if_neg (fun hc => hr hc.2), List.append_nil]
                rw [Bool.not_eq_true] at hr
                rw [hr] at hI
                have HI := Lib.hid hI; clear hI hr
                go_wp2_with fail
                refine HI.out.mono ?_
                rintro e w1 ⟨rfl, rfl⟩
                go_wp2
                go_roundw
                case rel => exact ⟨j + 1, kk, c1, a1, by omega, by omega, by go_num, rfl, by rw [hx.out]; exact ho, hb⟩
                case measure => simp [intOf]; omega
            · have hm' : ¬ ((f : Int) + ((j : Int) + 1) - (f : Int) + 1 < (n : Int)) := by omega
              have hx : Hid (ivRow xs f (j + 1) = ivRow xs f j) := by
                show _ = _; simp only [ivRow]; rw [if_neg (fun hc => hm (by rw [← HN.out]; exact hc.1)), List.append_nil]
              go_wp2
              go_roundw
              case rel => exact ⟨j + 1, kk, c1, a1, by omega, by omega, by go_num, rfl, by rw [hx.out]; exact ho, hb⟩
              case measure => simp [intOf]; omega
          · have hgo : ¬ ((f : Int) + ((j : Int) + 1) < (n : Int)) := by omega
            have hx : Hid (ivAll xs (f + 1) = ivAll xs f ++ ivRow xs f j) := by
              show _ = _; simp only [ivAll]; rw [HN.out, show n - 1 - f = j by omega]
            have hkk' : kk ≤ 64 := by
              have h1 := ho.len
              rw [← hx.out] at h1
              have h2 := ivAll_bd (f := f + 1) HN.out h8 (by omega)
              omega
            go_wp2
            go_roundw
            case rel => exact ⟨f + 1, kk, c1, a1, by omega, hkk', by go_num, rfl, by rw [hx.out]; exact ho, hb⟩
            case measure => simp [intOf]; omega
      · have : f = n := by omega
        subst this
        have e : ivAll xs f = ivs xs := by unfold ivs; rw [HN.out]
        rw [e] at ho0
        go_wp2
        go_ret
        exact ⟨_, _, _, rfl, ho0, hb0⟩
  · have e : ivsP xs = [] := if_neg hpp
    have HP8 : Hid (decide (Perm8 xs) = false) := decide_eq_false hpp
    have hn0 : 0 < n := by
      rcases Nat.eq_zero_or_pos n with h0 | h0
      · exfalso
        have h1 := HN.out
        rw [h0] at h1
        have : xs = [] := List.eq_nil_of_length_eq_zero h1
        subst this
        exact hpp ⟨by simp, by simp [IsPermL]⟩
      · exact h0
    rw [e]
    clear e hpp
    go_enter Try.func34, Try.ntmps34
    go_wp2
    go_loopw [3, 4, 5] (fun v i _ wr => i = .int .i64 0 ∧ v = .slice (some ⟨w.heap.size, 0, none⟩) 0 0 ∧ OwnII wr w.heap.size wr.heap.size (some ⟨w.heap.size, 0, none⟩) 0 0 [] ∧ Below w.heap.size w wr) (fun _ _ _ _ => 0)
    case atStart => exact ⟨rfl, rfl, OwnII.start w, below_alloc _ _⟩
    case round =>
      obtain ⟨rfl, rfl, ho0, hb0⟩ := hrel
      have hI0 := spec_IsPerm a n c xs _ (h.below hb0)
      rw [HP8.out] at hI0
      go_wp2_with fail
      refine hI0.mono ?_
      rintro e wo ⟨rfl, hbo⟩
      have hb := hb0.trans (hbo.mono hb0.size)
      have ho := (ho0.below hbo).mono (Nat.le_refl _) hbo.size
      clear ho0 hb0 hI0
      go_wp2
      go_ret
      exact ⟨_, _, _, rfl, ho, hb⟩

theorem rows2_ivsP (xs : List Int) : ∀ r ∈ ivsP xs, r.length = 2 := by
  unfold ivsP; split
  · exact rows2_ivAll _ _
  · simp
theorem length_ivsP (xs : List Int) : (ivsP xs).length ≤ 64 := by
  unfold ivsP; split
  · rename_i h; exact ivAll_bd rfl h.1 (Nat.le_refl _)
  · simp
end Go.Proofs.Ytmojniiimondfaa
