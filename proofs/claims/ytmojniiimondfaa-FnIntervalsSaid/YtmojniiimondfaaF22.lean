/- The sum parts and the skew parts of a permutation: the walks, of the program and of the reference, and that both are one. No condition. -/
import Derived.Test.YtmojniiimondfaaF19
import Derived.Test.YtmojniiimondfaaF09
import Derived.Test.YtmojniiimondfaaF15
import Derived.Test.YtmojniiimondfaaF06
namespace Go.Proofs.Ytmojniiimondfaa
open Go.RowKit

/-- The greatest of the first k, at least 0. -/
def mostAt (xs : List Int) : Nat → Int
  | 0 => 0
  | k + 1 => max (mostAt xs k) (xs.getD k 0)
def fromAt (xs : List Int) : Nat → Nat
  | 0 => 0
  | k + 1 => if mostAt xs (k + 1) = (k : Int) + 1 then k + 1 else fromAt xs k
/-- The parts that end at place k or before; g makes a part of its place and its numbers. -/
def partsG (g : Nat → List Int → List Int) (xs : List Int) : Nat → List (List Int)
  | 0 => []
  | k + 1 => partsG g xs k ++ (if mostAt xs (k + 1) = (k : Int) + 1 then [g (fromAt xs k) ((xs.drop (fromAt xs k)).take (k + 1 - fromAt xs k))] else [])
def sumPs (xs : List Int) : List (List Int) := partsG (fun _ l => pat l) xs xs.length

theorem fromAt_le (xs : List Int) (k : Nat) : fromAt xs k ≤ k := by
  induction k with
  | zero => exact Nat.le_refl _
  | succ k ih => simp only [fromAt]; split <;> omega
theorem most_from (xs : List Int) (k : Nat) : mostAt xs (fromAt xs k) = (fromAt xs k : Int) := by
  induction k with
  | zero => rfl
  | succ k ih =>
    simp only [fromAt]; split
    · rename_i h; rw [h]; omega
    · exact ih
theorem le_most {xs : List Int} {k : Nat} (hk : k ≤ xs.length) : ∀ x ∈ xs.take k, x ≤ mostAt xs k := by
  induction k with
  | zero => simp
  | succ k ih =>
    have hx : xs[k]? = some _ := List.getElem?_eq_getElem (by omega)
    intro x hx'
    rcases (mem_take_succ hx x).1 hx' with h | h
    · have := ih (by omega) x h
      simp only [mostAt]; omega
    · simp only [mostAt, getD_of hx]; omega
theorem most_bd {b : Nat} {xs : List Int} (h : Upb b xs) (k : Nat) : 0 ≤ mostAt xs k ∧ mostAt xs k ≤ (b : Int) := by
  induction k with
  | zero => simp [mostAt]
  | succ k ih =>
    have h1 := h.getD k
    simp only [mostAt]; omega
theorem nodup_len_le (m : Nat) : ∀ (l : List Int) (a : Int), l.Nodup → (∀ x ∈ l, a < x ∧ x ≤ a + (m : Int)) → l.length ≤ m := by
  induction m with
  | zero =>
    intro l a _ h
    cases l with
    | nil => simp
    | cons x l => have := h x (by simp); omega
  | succ m ih =>
    intro l a hn h
    by_cases hm : a + (m : Int) + 1 ∈ l
    · have h1 := ih (l.erase (a + (m : Int) + 1)) a (hn.erase _) (fun x hx => by
        have h2 := (hn.mem_erase_iff).1 hx
        have h3 := h x h2.2
        have h4 := h2.1
        omega)
      rw [List.length_erase_of_mem hm] at h1
      omega
    · have h1 := ih l a hn (fun x hx => by
        have h3 := h x hx
        have h4 : x ≠ a + (m : Int) + 1 := fun e => hm (e ▸ hx)
        omega)
      omega
/-- A part holds the numbers that follow its place. -/
theorem part_range {xs : List Int} (hp : IsPermL xs) {k : Nat} (hk : k < xs.length) (hm : mostAt xs (k + 1) = (k : Int) + 1) :
    ((xs.drop (fromAt xs k)).take (k + 1 - fromAt xs k)).Nodup ∧ ((xs.drop (fromAt xs k)).take (k + 1 - fromAt xs k)).length = k + 1 - fromAt xs k ∧
      ∀ x ∈ (xs.drop (fromAt xs k)).take (k + 1 - fromAt xs k), (fromAt xs k : Int) < x ∧ x ≤ (k : Int) + 1 := by
  have hf := fromAt_le xs k
  have hmf := most_from xs k
  generalize fromAt xs k = f at *
  have e : xs.take (k + 1) = xs.take f ++ (xs.drop f).take (k + 1 - f) := by
    have h1 : (xs.drop f).take (k + 1 - f) = (xs.take (k + 1)).drop f := by rw [List.drop_take]
    rw [h1]
    have h2 : xs.take f = (xs.take (k + 1)).take f := by rw [List.take_take, Nat.min_eq_left (by omega)]
    rw [h2, List.take_append_drop]
  have hnd : (xs.take f ++ (xs.drop f).take (k + 1 - f)).Nodup := by rw [← e]; exact hp.2.sublist (List.take_sublist _ _)
  obtain ⟨hn1, hn2, hn3⟩ := List.nodup_append.1 hnd
  refine ⟨hn2, by rw [List.length_take, List.length_drop]; omega, fun x hx => ?_⟩
  have hx1 : x ≤ (k : Int) + 1 := by
    have := le_most (xs := xs) (k := k + 1) (by omega) x (by rw [e]; exact List.mem_append_right _ hx)
    omega
  refine ⟨?_, hx1⟩
  rcases Int.lt_or_le (f : Int) x with h | h
  · exact h
  · exfalso
    have hall : ∀ y ∈ x :: xs.take f, 0 < y ∧ y ≤ 0 + (f : Int) := by
      intro y hy
      rcases List.mem_cons.1 hy with rfl | hy
      · have h1 := hp.1 y (List.mem_of_mem_drop (List.mem_of_mem_take hx))
        omega
      · have h1 := hp.1 y (List.mem_of_mem_take hy)
        have h2 := le_most (xs := xs) (k := f) (by omega) y hy
        omega
    have hnx : (x :: xs.take f).Nodup := by
      rw [List.nodup_cons]
      exact ⟨fun hx2 => hn3 x hx2 x hx rfl, hn1⟩
    have h3 := nodup_len_le f _ 0 hnx hall
    rw [List.length_cons, List.length_take] at h3
    omega
theorem rk_range {l : List Int} {f m : Nat} (hn : l.Nodup) (hl : l.length = m) (h : ∀ x ∈ l, (f : Int) < x ∧ x ≤ (f : Int) + (m : Int)) {x : Int} (hx : x ∈ l) : rk l x = x - (f : Int) := by
  have hx0 := h x hx
  have h1 : (l.filter fun y => decide (y < x)).length ≤ (x - 1 - (f : Int)).toNat := by
    refine nodup_len_le _ _ (f : Int) (hn.filter _) fun y hy => ?_
    rw [List.mem_filter] at hy
    have h2 := h y hy.1
    have h3 := of_decide_eq_true hy.2
    omega
  have h2 : (l.filter fun y => !decide (y < x)).length ≤ ((f : Int) + (m : Int) - (x - 1)).toNat := by
    refine nodup_len_le _ _ (x - 1) (hn.filter _) fun y hy => ?_
    rw [List.mem_filter] at hy
    have h2 := h y hy.1
    have h3 := hy.2
    simp at h3
    omega
  have h3 := List.length_eq_countP_add_countP (fun y => decide (y < x)) (l := l)
  rw [← List.countP_eq_length_filter] at h1 h2
  have h4 : (l.countP fun y => !decide (y < x)) = l.countP fun y => decide ¬(decide (y < x) = true) := by
    congr 1; funext y; by_cases hyx : y < x <;> simp [hyx] <;> omega
  rw [h4] at h2
  unfold rk
  omega
theorem pat_part {xs : List Int} (hp : IsPermL xs) {k : Nat} (hk : k < xs.length) (hm : mostAt xs (k + 1) = (k : Int) + 1) :
    pat ((xs.drop (fromAt xs k)).take (k + 1 - fromAt xs k)) = raise ((xs.drop (fromAt xs k)).take (k + 1 - fromAt xs k)) (-(fromAt xs k : Int)) := by
  obtain ⟨h1, h2, h3⟩ := part_range hp hk hm
  have hf := fromAt_le xs k
  unfold pat raise
  refine List.map_congr_left fun x hx => ?_
  rw [rk_range (f := fromAt xs k) h1 h2 (fun y hy => by have := h3 y hy; omega) hx]
  omega
theorem partsG_eq {xs : List Int} (hp : IsPermL xs) (k : Nat) (hk : k ≤ xs.length) : partsG (fun f l => raise l (-(f : Int))) xs k = partsG (fun _ l => pat l) xs k := by
  induction k with
  | zero => rfl
  | succ k ih =>
    simp only [partsG]
    rw [ih (by omega)]
    congr 1
    split
    · rename_i h
      rw [pat_part hp (by omega) h]
    · rfl
theorem length_partsG (g : Nat → List Int → List Int) (xs : List Int) (k : Nat) : (partsG g xs k).length ≤ k := by
  induction k with
  | zero => simp [partsG]
  | succ k ih => simp only [partsG, List.length_append]; split <;> simp <;> omega
theorem rows_partsG {xs : List Int} (hp : IsPermL xs) (k : Nat) (hk : k ≤ xs.length) : ∀ r ∈ partsG (fun _ l => pat l) xs k, IsPermL r ∧ r.length ≤ xs.length := by
  induction k with
  | zero => simp [partsG]
  | succ k ih =>
    intro r hr
    simp only [partsG] at hr
    rcases List.mem_append.1 hr with hr | hr
    · exact ih (by omega) r hr
    · split at hr
      · rename_i h
        simp at hr
        subst hr
        obtain ⟨h1, h2, _⟩ := part_range hp (by omega) h
        exact ⟨(pat_perm _).2 h1, by rw [length_pat, h2]; omega⟩
      · cases hr
def sumPsP (xs : List Int) : List (List Int) := if Perm8 xs then sumPs xs else []
theorem bound_sumPsP (xs : List Int) : totL (sumPsP xs) ≤ 2097152 ∧ (sumPsP xs).length ≤ 2097152 := by
  unfold sumPsP; split
  · rename_i h
    exact bound_rows (k := 8) (m := 8) (Nat.le_trans (length_partsG _ _ _) h.1) (fun r hr => Nat.le_trans (rows_partsG h.2 _ (Nat.le_refl _) r hr).2 h.1) (by omega) (by omega)
  · simp [totL]

set_option maxHeartbeats 1600000 in
theorem sumParts_any (a : Option Addr) (n c : Nat) (xs : List Int) (w : World) (h : SlI w a n c xs) (hp : Hid (Perm8 xs)) :
    Calls Try.prog 84 #[.slice a n c] w (RetII w (sumPs xs)) := by
  have HN : Hid (xs.length = n) := h.2.1
  have h8 : n ≤ 8 := by have := hp.out.1; have := HN.out; omega
  have hnc := h.2.2.2.1
  have HU : Hid (Upb 1048576 xs) := hp.out.upb
  have HQ : Hid (sumPs xs = partsG (fun f l => raise l (-(f : Int))) xs n) := by
    show _ = _; unfold sumPs; rw [← partsG_eq hp.out.2 _ (Nat.le_refl _), HN.out]
  rw [HQ.out]
  go_enter Try.func84, Try.ntmps84
  go_wp2
  go_loopw [3, 4, 5, 6, 7, 11] (fun v fr mo _ _ i wr => ∃ (k kk c1 f : Nat) (q : Int) (a1 : Option Addr), k ≤ n ∧ kk ≤ k ∧ f ≤ k ∧ 0 ≤ q ∧ q ≤ 1048576 ∧ i = .int .i64 k ∧ fr = .int .i64 f ∧ mo = .int .i64 q ∧ v = .slice a1 kk c1 ∧ Hid (f = fromAt xs k) ∧ Hid (q = mostAt xs k) ∧ OwnII wr w.heap.size wr.heap.size a1 kk c1 (partsG (fun f l => raise l (-(f : Int))) xs k) ∧ Below w.heap.size w wr) (fun _ _ _ _ _ i _ => n - (intOf i).toNat)
  case atStart => exact ⟨0, 0, 0, 0, 0, _, Nat.zero_le _, Nat.le_refl _, Nat.le_refl _, Int.le_refl _, by omega, rfl, rfl, rfl, rfl, rfl, rfl, OwnII.start w, below_alloc _ _⟩
  case round =>
    obtain ⟨k, kk, c1, f, q, a1, hk, hkk, hf, hq0, hq1, rfl, rfl, rfl, rfl, HF, HQk, ho, hb⟩ := hrel
    by_cases hlt : k < n
    · obtain ⟨ab, ao, x, rfl, hx, HX⟩ := (h.1.below hb).at (i := k) (by rw [HN.out]; exact hlt)
      have hx01 := HU.out x (List.mem_of_getElem? HX.out)
      obtain ⟨hx0, hx1⟩ := hx01
      obtain ⟨m, hm⟩ : ∃ m, k + 1 = f + m := ⟨k + 1 - f, by omega⟩
      have HM : Hid (mostAt xs (k + 1) = max q x) := by show _ = _; simp only [mostAt, getD_of HX.out, HQk.out]
      have el : (k : Int) + 1 - (f : Int) = (m : Int) := by omega
      have hcf : ¬ (c = f) := by omega
      have hsl : SlI wr (some ⟨ab, ao + f, none⟩) m (c - f) ((xs.drop f).take m) := ⟨((h.1.drop f).take m).below hb, by rw [List.length_take, List.length_drop, HN.out]; omega, by omega, by omega, by simp⟩
      have HSm : Hid (Sm ((xs.drop f).take m)) := fun y hy => by have := HU.out y (List.mem_of_mem_drop (List.mem_of_mem_take hy)); omega
      have hR := raised_any _ _ _ _ (-(f : Int)) wr hsl HSm (by omega) (by omega)
      clear hsl
      have Hmk : Hid (m = k + 1 - fromAt xs k) := by show _ = _; rw [← HF.out]; omega
      by_cases hqx : q < x
      · have HZ : Hid (mostAt xs (k + 1) = x) := by show _ = _; rw [HM.out]; omega
        by_cases hbr : x = (k : Int) + 1
        · have hbr' : (x == (k : Int) + 1) = true := by rw [beq_iff_eq]; exact hbr
          have HE : Hid (partsG (fun f l => raise l (-(f : Int))) xs (k + 1) = partsG (fun f l => raise l (-(f : Int))) xs k ++ [raise ((xs.drop f).take m) (-(f : Int))]) := by
            show _ = _; simp only [partsG]; rw [if_pos (by rw [HZ.out, hbr]), ← Hmk.out, ← HF.out]
          have HF' : Hid (k + 1 = fromAt xs (k + 1)) := by show _ = _; simp only [fromAt]; rw [if_pos (by rw [HZ.out, hbr])]
          clear hbr
          go_wp2_with fail
          refine hR.mono ?_
          rintro e w1 ⟨a4, n4, c4, rfl, ho4, hb4⟩
          have ho1 := ho.below hb4
          have hsz := hb4.size
          go_wp2_with (at_builtin; refine wpList_appII rfl _ _ rfl w.heap.size _ _ _ _ _ _ rfl ho1 _ _ _ _ ho4.ins (Nat.le_refl _) hb.size _ rfl rfl (by omega) (by have := hb.size; omega) (by omega) ?_)
          intro a' c' w2 g1 g2 _
          have hbb := (hb.trans (hb4.mono hb.size)).trans g2
          clear ho4 ho1 hb4 hR
          go_wp2
          go_roundw
          case rel => exact ⟨k + 1, kk + 1, c', k + 1, x, a', by omega, by omega, by omega, by omega, by omega, by go_num, by go_num, rfl, rfl, HF', HZ.out.symm, by rw [HE.out]; exact g1, hbb⟩
          case measure => simp [intOf]; omega
        · have hbr' : (x == (k : Int) + 1) = false := by rw [beq_eq_false_iff_ne]; exact hbr
          have HE : Hid (partsG (fun f l => raise l (-(f : Int))) xs (k + 1) = partsG (fun f l => raise l (-(f : Int))) xs k) := by
            show _ = _; simp only [partsG]; rw [if_neg (by rw [HZ.out]; exact hbr), List.append_nil]
          have HF' : Hid (f = fromAt xs (k + 1)) := by show _ = _; simp only [fromAt]; rw [if_neg (by rw [HZ.out]; exact hbr)]; exact HF.out
          clear hbr hR
          go_wp2
          go_roundw
          case rel => exact ⟨k + 1, kk, c1, f, x, a1, by omega, by omega, by omega, by omega, by omega, by go_num, rfl, rfl, rfl, HF', HZ.out.symm, by rw [HE.out]; exact ho, hb⟩
          case measure => simp [intOf]; omega
      · have HZ : Hid (mostAt xs (k + 1) = q) := by show _ = _; rw [HM.out]; omega
        by_cases hbr : q = (k : Int) + 1
        · have hbr' : (q == (k : Int) + 1) = true := by rw [beq_iff_eq]; exact hbr
          have HE : Hid (partsG (fun f l => raise l (-(f : Int))) xs (k + 1) = partsG (fun f l => raise l (-(f : Int))) xs k ++ [raise ((xs.drop f).take m) (-(f : Int))]) := by
            show _ = _; simp only [partsG]; rw [if_pos (by rw [HZ.out, hbr]), ← Hmk.out, ← HF.out]
          have HF' : Hid (k + 1 = fromAt xs (k + 1)) := by show _ = _; simp only [fromAt]; rw [if_pos (by rw [HZ.out, hbr])]
          clear hbr
          go_wp2_with fail
          refine hR.mono ?_
          rintro e w1 ⟨a4, n4, c4, rfl, ho4, hb4⟩
          have ho1 := ho.below hb4
          have hsz := hb4.size
          go_wp2_with (at_builtin; refine wpList_appII rfl _ _ rfl w.heap.size _ _ _ _ _ _ rfl ho1 _ _ _ _ ho4.ins (Nat.le_refl _) hb.size _ rfl rfl (by omega) (by have := hb.size; omega) (by omega) ?_)
          intro a' c' w2 g1 g2 _
          have hbb := (hb.trans (hb4.mono hb.size)).trans g2
          clear ho4 ho1 hb4 hR
          go_wp2
          go_roundw
          case rel => exact ⟨k + 1, kk + 1, c', k + 1, q, a', by omega, by omega, by omega, by omega, by omega, by go_num, by go_num, rfl, rfl, HF', HZ.out.symm, by rw [HE.out]; exact g1, hbb⟩
          case measure => simp [intOf]; omega
        · have hbr' : (q == (k : Int) + 1) = false := by rw [beq_eq_false_iff_ne]; exact hbr
          have HE : Hid (partsG (fun f l => raise l (-(f : Int))) xs (k + 1) = partsG (fun f l => raise l (-(f : Int))) xs k) := by
            show _ = _; simp only [partsG]; rw [if_neg (by rw [HZ.out]; exact hbr), List.append_nil]
          have HF' : Hid (f = fromAt xs (k + 1)) := by show _ = _; simp only [fromAt]; rw [if_neg (by rw [HZ.out]; exact hbr)]; exact HF.out
          clear hbr hR
          go_wp2
          go_roundw
          case rel => exact ⟨k + 1, kk, c1, f, q, a1, by omega, by omega, by omega, by omega, by omega, by go_num, rfl, rfl, rfl, HF', HZ.out.symm, by rw [HE.out]; exact ho, hb⟩
          case measure => simp [intOf]; omega
    · have hkn : k = n := by omega
      subst hkn
      go_wp2
      go_ret
      exact ⟨_, _, _, rfl, ho, hb⟩
end Go.Proofs.Ytmojniiimondfaa
