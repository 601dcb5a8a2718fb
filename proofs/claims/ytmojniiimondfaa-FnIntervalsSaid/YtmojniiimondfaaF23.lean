/- SumParts and SkewParts: the walks of the program's and the reference's functions. No condition. -/
import Derived.Test.YtmojniiimondfaaF22
import Derived.Test.YtmojniiimondfaaF20
namespace Go.Proofs.Ytmojniiimondfaa
open Go.RowKit

set_option maxHeartbeats 400000 in
theorem impl_SumParts (a : Option Addr) (n c : Nat) (xs : List Int) (w : World) (h : SlI w a n c xs) :
    Calls Try.prog 38 #[.slice a n c] w (RetII w (sumPsP xs)) := by
  have hI := impl_IsPerm a n c xs w h
  by_cases hp : Perm8 xs
  · rw [decide_eq_true hp] at hI
    have HP : Hid (Perm8 xs) := hp
    have e : sumPsP xs = sumPs xs := if_pos hp
    rw [e]; clear e hp
    go_enter Try.func38, Try.ntmps38
    go_wp2_with fail
    refine hI.mono ?_
    rintro e w1 ⟨rfl, hb1⟩
    go_wp2_with fail
    refine (sumParts_any a n c xs _ (h.below hb1) HP).mono ?_
    rintro e w2 ⟨a1, n1, c1, rfl, ho1, hb2⟩
    go_wp2
    go_ret
    exact ⟨_, _, _, rfl, ho1.mono hb1.size (Nat.le_refl _), hb1.trans (hb2.mono hb1.size)⟩
  · rw [decide_eq_false hp] at hI
    have e : sumPsP xs = [] := if_neg hp
    rw [e]; clear e hp
    go_enter Try.func38, Try.ntmps38
    go_wp2_with fail
    refine hI.mono ?_
    rintro e w1 ⟨rfl, hb1⟩
    go_wp2
    go_ret
    exact ⟨_, _, _, rfl, OwnII.nil _ _ _, hb1⟩

set_option maxHeartbeats 1600000 in
theorem spec_SumParts (a : Option Addr) (n c : Nat) (xs : List Int) (w : World) (h : SlI w a n c xs) :
    Calls Try.prog 49 #[.slice a n c] w (RetII w (sumPsP xs)) := by
  have hI := spec_IsPerm a n c xs _ (h.below (below_alloc w (.cells #[] 28)))
  by_cases hp : Perm8 xs
  · rw [decide_eq_true hp] at hI
    have HP : Hid (Perm8 xs) := hp
    have HN : Hid (xs.length = n) := h.2.1
    have h8 : n ≤ 8 := by have := hp.1; have := HN.out; omega
    have hnc := h.2.2.2.1
    have HU : Hid (Upb 1048576 xs) := hp.upb
    have e : sumPsP xs = partsG (fun _ l => pat l) xs n := by unfold sumPsP; rw [if_pos hp, sumPs, HN.out]
    rw [e]; clear e hp
    go_enter Try.func49, Try.ntmps49
    go_wp2_with fail
    refine hI.mono ?_
    rintro e wz ⟨rfl, hbz⟩
    have hb0 : Below w.heap.size w wz := (below_alloc w _).trans (hbz.mono (by simp))
    have ho0 := (OwnII.start w).below hbz
    have hsz0 := hbz.size
    clear hI
    go_wp2
    go_loopw [3, 4, 5, 6] (fun v fr mo i wr => ∃ (k kk c1 f : Nat) (q : Int) (a1 : Option Addr), k ≤ n ∧ kk ≤ k ∧ f ≤ k ∧ 0 ≤ q ∧ q ≤ 1048576 ∧ i = .int .i64 k ∧ fr = .int .i64 f ∧ mo = .int .i64 q ∧ v = .slice a1 kk c1 ∧ Hid (f = fromAt xs k) ∧ Hid (q = mostAt xs k) ∧ OwnII wr w.heap.size wr.heap.size a1 kk c1 (partsG (fun _ l => pat l) xs k) ∧ Below w.heap.size w wr) (fun _ _ _ i _ => n - (intOf i).toNat)
    case atStart => exact ⟨0, 0, 0, 0, 0, _, Nat.zero_le _, Nat.le_refl _, Nat.le_refl _, Int.le_refl _, by omega, rfl, rfl, rfl, rfl, rfl, rfl, ho0.mono (Nat.le_refl _) hsz0, hb0⟩
    case round =>
      obtain ⟨k, kk, c1, f, q, a1, hk, hkk, hf, hq0, hq1, rfl, rfl, rfl, rfl, HF, HQk, ho, hb⟩ := hrel
      by_cases hlt : k < n
      · obtain ⟨ab, ao, x, rfl, hx, HX⟩ := (h.1.below hb).at (i := k) (by rw [HN.out]; exact hlt)
        have hx01 := HU.out x (List.mem_of_getElem? HX.out)
        obtain ⟨hx0, hx1⟩ := hx01
        obtain ⟨m, hm⟩ : ∃ m, k + 1 = f + m := ⟨k + 1 - f, by omega⟩
        obtain ⟨z, hz⟩ : ∃ z, z = max q x := ⟨_, rfl⟩
        have hM := l1Max_any q x wr
        rw [← hz] at hM
        have hz0 : 0 ≤ z := by omega
        have hz1 : z ≤ 1048576 := by omega
        have HZ : Hid (mostAt xs (k + 1) = z) := by show _ = _; simp only [mostAt, getD_of HX.out]; rw [← HQk.out, hz]
        clear hz
        have el : (k : Int) + 1 - (f : Int) = (m : Int) := by omega
        have hcf : ¬ (c = f) := by omega
        have hsl : SlI wr (some ⟨ab, ao + f, none⟩) m (c - f) ((xs.drop f).take m) := ⟨((h.1.drop f).take m).below hb, by rw [List.length_take, List.length_drop, HN.out]; omega, by omega, by omega, by simp⟩
        have hR := l2Pattern_any _ _ _ _ wr hsl
        clear hsl
        have Hmk : Hid (m = k + 1 - fromAt xs k) := by show _ = _; rw [← HF.out]; omega
        by_cases hbr : z = (k : Int) + 1
        · have hbr' : (z == (k : Int) + 1) = true := by rw [beq_iff_eq]; exact hbr
          have HE : Hid (partsG (fun _ l => pat l) xs (k + 1) = partsG (fun _ l => pat l) xs k ++ [pat ((xs.drop f).take m)]) := by
            show _ = _; simp only [partsG]; rw [if_pos (by rw [HZ.out, hbr]), ← Hmk.out, ← HF.out]
          have HF' : Hid (k + 1 = fromAt xs (k + 1)) := by show _ = _; simp only [fromAt]; rw [if_pos (by rw [HZ.out, hbr])]
          clear hbr
          go_wp2_with fail
          refine hM.mono ?_
          rintro e w1 ⟨rfl, hw1⟩
          obtain rfl : wr = w1 := hw1.symm
          clear hM
          go_wp2_with fail
          refine hR.mono ?_
          rintro e w1 ⟨a4, n4, c4, rfl, ho4, hb4⟩
          have ho1 := ho.below hb4
          have hsz := hb4.size
          go_wp2_with (at_builtin; refine wpList_appII rfl _ _ rfl w.heap.size _ _ _ _ _ _ rfl ho1 _ _ _ _ ho4.ins (Nat.le_refl _) hb.size _ rfl rfl (by omega) (by have := hb.size; omega) (by omega) ?_)
          intro a' c' w2 g1 g2 _
          have hbb := (hb.trans (hb4.mono hb.size)).trans g2
          clear ho4 ho1 hb4 hR
          go_wp2
          go_roundw
          case rel => exact ⟨k + 1, kk + 1, c', k + 1, z, a', by omega, by omega, by omega, by omega, by omega, by go_num, by go_num, rfl, rfl, HF', HZ.out.symm, by rw [HE.out]; exact g1, hbb⟩
          case measure => simp [intOf]; omega
        · have hbr' : (z == (k : Int) + 1) = false := by rw [beq_eq_false_iff_ne]; exact hbr
          have HE : Hid (partsG (fun _ l => pat l) xs (k + 1) = partsG (fun _ l => pat l) xs k) := by
            show _ = _; simp only [partsG]; rw [if_neg (by rw [HZ.out]; exact hbr), List.append_nil]
          have HF' : Hid (f = fromAt xs (k + 1)) := by show _ = _; simp only [fromAt]; rw [if_neg (by rw [HZ.out]; exact hbr)]; exact HF.out
          clear hbr hR
          go_wp2_with fail
          refine hM.mono ?_
          rintro e w1 ⟨rfl, hw1⟩
          obtain rfl : wr = w1 := hw1.symm
          clear hM
          go_wp2
          go_roundw
          case rel => exact ⟨k + 1, kk, c1, f, z, a1, by omega, by omega, by omega, by omega, by omega, by go_num, rfl, rfl, rfl, HF', HZ.out.symm, by rw [HE.out]; exact ho, hb⟩
          case measure => simp [intOf]; omega
      · have hkn : k = n := by omega
        subst hkn
        go_wp2
        go_ret
        exact ⟨_, _, _, rfl, ho, hb⟩
  · rw [decide_eq_false hp] at hI
    have e : sumPsP xs = [] := if_neg hp
    rw [e]; clear e hp
    go_enter Try.func49, Try.ntmps49
    go_wp2_with fail
    refine hI.mono ?_
    rintro e w1 ⟨rfl, hb1⟩
    go_wp2
    go_ret
    exact ⟨_, _, _, rfl, ((OwnII.start w).below hb1).mono (Nat.le_refl _) hb1.size, (below_alloc w _).trans (hb1.mono (by simp))⟩

/-! ### skew parts -/
theorem nodup_compl {xs : List Int} (h : xs.Nodup) : (compl xs).Nodup := nodup_map_of (fun x _ y _ e => by omega) h
theorem perm_compl {xs : List Int} (h : IsPermL xs) : IsPermL (compl xs) := by
  refine ⟨fun y hy => ?_, nodup_compl h.2⟩
  unfold compl at hy
  obtain ⟨x, hx, rfl⟩ := List.mem_map.1 hy
  have := h.1 x hx
  rw [length_compl]; omega
theorem perm8_compl {xs : List Int} (h : Perm8 xs) : Perm8 (compl xs) := ⟨by rw [length_compl]; exact h.1, perm_compl h.2⟩
def skewPs (xs : List Int) : List (List Int) := (sumPs (compl xs)).map compl
def skewPsP (xs : List Int) : List (List Int) := if Perm8 xs then skewPs xs else []
theorem rows_sumPs {xs : List Int} (h : Perm8 xs) : ∀ r ∈ sumPs xs, IsPermL r ∧ r.length ≤ 8 := fun r hr => by
  have := rows_partsG h.2 xs.length (Nat.le_refl _) r hr
  exact ⟨this.1, Nat.le_trans this.2 h.1⟩
theorem length_sumPs {xs : List Int} (h : Perm8 xs) : (sumPs xs).length ≤ 8 := Nat.le_trans (length_partsG _ _ _) h.1
theorem rows_skewPs {xs : List Int} (h : Perm8 xs) : ∀ r ∈ skewPs xs, IsPermL r ∧ r.length ≤ 8 := fun r hr => by
  obtain ⟨q, hq, rfl⟩ := List.mem_map.1 hr
  have := rows_sumPs (perm8_compl h) q hq
  exact ⟨perm_compl this.1, by rw [length_compl]; exact this.2⟩
theorem bound_skewPsP (xs : List Int) : totL (skewPsP xs) ≤ 2097152 ∧ (skewPsP xs).length ≤ 2097152 := by
  unfold skewPsP; split
  · rename_i h
    exact bound_rows (k := 8) (m := 8) (by unfold skewPs; rw [List.length_map]; exact length_sumPs (perm8_compl h)) (fun r hr => (rows_skewPs h r hr).2) (by omega) (by omega)
  · simp [totL]

/-- A row is put in place of another. -/
theorem OwnII.put {w : World} {lo hi n c g : Nat} {xss : List (List Int)} (h : OwnII w lo hi (some ⟨g, 0, none⟩) n c xss) {k mid : Nat} (hk : k < n) {ra : Option Addr} {rn rc : Nat} {ys : List Int} (ho : OwnIn w mid w.heap.size ra rn rc ys) (hmid : hi ≤ mid) (hlo : lo ≤ hi) (hhi : hi ≤ w.heap.size) :
    OwnII (w.setCell ⟨g, k, none⟩ (.slice ra rn rc)) lo w.heap.size (some ⟨g, 0, none⟩) n c (xss.set k ys) ∧ w.grownBy (w.setCell ⟨g, k, none⟩ (.slice ra rn rc)) (some g) ∧ lo ≤ g ∧ w.frozen? ⟨g, k, none⟩ = false ∧ (w.setCell ⟨g, k, none⟩ (.slice ra rn rc)).heap.size = w.heap.size := by
  obtain ⟨rs, h1, h2, h3, h4, h5, h6⟩ := h
  obtain ⟨s1, s2⟩ := h3.stored k (.slice ra rn rc)
  have hlt : lo ≤ g ∧ g < w.heap.size := h3.lt g rfl
  have old : ∀ (l m : Nat) (q : Option Addr × Nat × Nat) (zs : List Int), OwnIn w l m q.1 q.2.1 q.2.2 zs → lo ≤ l → m ≤ w.heap.size → OwnIn (w.setCell ⟨g, k, none⟩ (.slice ra rn rc)) lo w.heap.size q.1 q.2.1 q.2.2 zs := by
    intro l m q zs hq hl hm
    have e := hq.1.grown s2 (by
      have := own_types_ne hq.1.2 h3 (by decide)
      simpa [Value.ownBlock] using this)
    exact ⟨e.mono hl, fun p hp => by have := hq.2 p hp; omega⟩
  refine ⟨⟨rs.set k (ra, rn, rc), by simp [h1], by simp [h2], by simpa [List.map_set, sl3] using s1, fun p hp => Nat.lt_of_lt_of_le (h4 p hp) hhi, ?_, ?_⟩, s2, hlt.1, h3.frozenAt k, by simp⟩
  · intro i r zs hr hz
    by_cases hik : i = k
    · subst hik
      rw [List.getElem?_set_self (by omega)] at hr hz
      cases hr; cases hz
      exact old mid _ _ _ ho (by omega) (Nat.le_refl _)
    · rw [List.getElem?_set_ne (Ne.symm hik)] at hr hz
      exact old lo hi r zs (h5 i r zs hr hz) (Nat.le_refl _) hhi
  · intro i j r s p q hij hr hs hp hq
    have hin : ∀ (i : Nat) (r : Option Addr × Nat × Nat), i ≠ k → (rs.set k (ra, rn, rc))[i]? = some r → rs[i]? = some r ∧ ∀ p, r.1 = some p → p.block < hi := by
      intro i r hik hr
      rw [List.getElem?_set_ne (Ne.symm hik)] at hr
      refine ⟨hr, fun p hp => ?_⟩
      have hil : i < xss.length := by rw [h1, ← h2]; exact (List.getElem?_eq_some_iff.1 hr).1
      exact (h5 i r _ hr (List.getElem?_eq_getElem hil)).2 p hp
    by_cases hik : i = k
    · subst hik
      rw [List.getElem?_set_self (by omega)] at hr
      cases hr
      have b1 := (ho.1.lo p hp).1
      have b2 := (hin j s (by omega) hs).2 q hq
      omega
    · by_cases hjk : j = k
      · subst hjk
        rw [List.getElem?_set_self (by omega)] at hs
        cases hs
        have b1 := (ho.1.lo q hq).1
        have b2 := (hin i r hik hr).2 p hp
        omega
      · exact h6 i j r s p q hij (hin i r hik hr).1 (hin j s hjk hs).1 hp hq
end Go.Proofs.Ytmojniiimondfaa
