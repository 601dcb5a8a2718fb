/- slices.CompactFunc with slices.Equal: the walk. Conditions: as the names say. -/
import Derived.Test.YtjhlianledgiiaaF62
namespace Go.Proofs.Ytjhlianledgiiaa
open Go.RowKit

theorem range_getD (rs : List (Option Addr × Nat × Nat)) {n : Nat} (h : rs.length = n) : ((List.range n).map fun i => rs.getD i (none, 0, 0)) = rs := by
  apply List.ext_getElem?
  intro i
  rw [List.getElem?_map]
  by_cases hi : i < n
  · simp [hi, List.getD, show i < rs.length by omega]
  · simp [hi, show rs.length ≤ i by omega]
theorem range_getD' (xss : List (List Int)) {n : Nat} (h : xss.length = n) : ((List.range n).map fun i => xss.getD i []) = xss := by
  apply List.ext_getElem?
  intro i
  rw [List.getElem?_map]
  by_cases hi : i < n
  · simp [hi, List.getD, show i < xss.length by omega]
  · simp [hi, show xss.length ≤ i by omega]
theorem cptN_small {xss : List (List Int)} {n : Nat} (h : xss.length = n) (hn : n < 2) : cptN xss n = xss := by
  match n, hn with
  | 0, _ => rw [List.eq_nil_of_length_eq_zero h]; rfl
  | 1, _ =>
    match xss, h with
    | [x], _ => simp [cptN]
/-- The array while it is being compacted. -/
def cptArr (rs : List (Option Addr × Nat × Nat)) (ks : List Nat) : List (Option Addr × Nat × Nat) := (ks.map fun i => rs.getD i (none, 0, 0)) ++ rs.drop ks.length
theorem cptArr_get {rs : List (Option Addr × Nat × Nat)} {ks : List Nat} {j : Nat} (h : ks.length ≤ j) (hj : j < rs.length) : (cptArr rs ks)[j]? = some (rs.getD j (none, 0, 0)) := by
  unfold cptArr
  rw [List.getElem?_append_right (by simpa using h), List.length_map, List.getElem?_drop, show ks.length + (j - ks.length) = j by omega]
  simp [List.getD, hj]
theorem cptArr_set {rs : List (Option Addr × Nat × Nat)} {ks : List Nat} {j : Nat} (h : ks.length < rs.length) : (cptArr rs ks).set ks.length (rs.getD j (none, 0, 0)) = cptArr rs (ks ++ [j]) := by
  unfold cptArr
  rw [List.set_append, if_neg (by simp), List.length_map, Nat.sub_self, List.drop_eq_getElem_cons h, List.set_cons_zero, List.length_append, List.map_append, List.append_assoc]
  rfl
theorem cptArr_take (rs : List (Option Addr × Nat × Nat)) (ks : List Nat) : (cptArr rs ks).take ks.length = ks.map fun i => rs.getD i (none, 0, 0) := by
  unfold cptArr
  rw [List.take_append_of_le_length (by simp), List.take_of_length_le (by simp)]
theorem kI_range_eq {xss : List (List Int)} {m : Nat} (h : kI xss (m + 1) = List.range (m + 1)) (he : ¬ xss.getD (m + 1) [] = xss.getD m []) : kI xss (m + 2) = List.range (m + 2) := by
  rw [kI, if_neg (by rintro ⟨_, h2⟩; exact he (by simpa using h2)), h, ← List.range_succ]

set_option maxHeartbeats 2000000 in
set_option maxRecDepth 100000 in
theorem compactFunc_any (a : Option Addr) (n c lo hi : Nat) (rs : List (Option Addr × Nat × Nat)) (xss : List (List Int)) (w : World) (ho : OwnIIr w lo hi a n c rs xss) (hn : n ≤ 2097152) (hl : Hid (∀ xs ∈ xss, xs.length ≤ 2097152)) :
    Calls Try.prog 125 #[.slice a n c, .func (.func 91) #[] #[]] w fun e w' =>
      ∃ a' n' c', e = .returned (.slice a' n' c') ∧ OwnII w' lo hi a' n' c' (cptN xss n) ∧ w.grownBy w' (Value.slice a n c).ownBlock := by
  by_cases h2 : n < 2
  · have e := cptN_small ho.1 h2
    rw [e]
    have HO : Hid (OwnII w lo hi a n c xss) := ⟨rs, ho⟩
    clear ho e
    go_enter Try.func125, Try.ntmps125
    go_wp2
    go_ret
    exact ⟨_, _, _, rfl, HO.out, World.grownBy.refl _ _⟩
  · obtain ⟨g, cur, rfl, _, _⟩ := own_head ho.2.2.1 (by omega)
    have HN : Hid (rs.length = n ∧ xss.length = n) := ⟨ho.2.1, ho.1⟩
    have hnc : n ≤ c := (show OwnII w lo hi _ n c xss from ⟨rs, ho⟩).capOf
    have HO0 := Lib.hid ho
    have HS0 : Hid (w.ownsRow lo 22 1 (.slice (some ⟨g, 0, none⟩) n c) n (rs.map sl3)) := ho.2.2.1
    clear ho
    go_enter Try.func125, Try.ntmps125
    go_wp2
    go_loopw [5] (fun i wr => ∃ m : Nat, m + 1 ≤ n ∧ i = .int .i64 ((m : Int) + 1) ∧ Hid (kI xss (m + 1) = List.range (m + 1)) ∧ Hid (wr.ownsRow lo 22 1 (.slice (some ⟨g, 0, none⟩) n c) n (rs.map sl3)) ∧ w.grownBy wr (some g)) (fun i _ => n - (intOf i).toNat)
    case atStart => exact ⟨0, by omega, by go_num, by simp [Hid, kI], HS0, World.grownBy.refl _ _⟩
    case round =>
      obtain ⟨m, hm, rfl, HK, HO, hg⟩ := hrel
      by_cases hlt : m + 1 < n
      · have hlt' : (m : Int) + 1 < (n : Int) := by omega
        obtain ⟨r1, hr1⟩ : ∃ r1, r1 = rs.getD (m + 1) (none, 0, 0) := ⟨_, rfl⟩
        obtain ⟨r0, hr0⟩ : ∃ r0, r0 = rs.getD m (none, 0, 0) := ⟨_, rfl⟩
        have hs1 := rowLater HO0.out hg hl.out hlt
        have hs0 := rowLater HO0.out hg hl.out (show m < n by omega)
        have hc1 : wr.cell? ⟨g, m + 1, none⟩ = some (sl3 r1) := by
          rw [HO.out.cellAt (m + 1) (by omega), List.getElem?_map, hr1]; simp [List.getD, show m + 1 < rs.length by rw [HN.out.1]; omega]
        have hc0 : wr.cell? ⟨g, m, none⟩ = some (sl3 r0) := by
          rw [HO.out.cellAt m (by omega), List.getElem?_map, hr0]; simp [List.getD, show m < rs.length by rw [HN.out.1]; omega]
        rw [← hr1] at hs1
        rw [← hr0] at hs0
        obtain ⟨ra1, rn1, rc1⟩ := r1
        obtain ⟨ra0, rn0, rc0⟩ := r0
        simp only [sl3] at hc1 hc0 hs1 hs0
        obtain ⟨b, hb⟩ : ∃ b, b = decide (xss.getD (m + 1) [] = xss.getD m []) := ⟨_, rfl⟩
        have c1 : ∀ q, Calls Try.prog 91 #[.slice ra1 rn1 rc1, .slice ra0 rn0 rc0] (wr.drewN q) (fun e w' => e = .returned (.bool b) ∧ ∃ p, w' = wr.drewN p) := fun q => (slicesEqual_any ra1 ra0 rn1 rn0 rc1 rc0 _ _ (wr.drewN q) (hs1.1.drewN q) (hs0.1.drewN q) hs1.2.1 hs0.2.1 hs1.2.2.1 hs0.2.2.1).mono fun _ _ ⟨h1, h2⟩ => ⟨by rw [h1, hb], ((Quiet.refl wr).drewN q).trans h2⟩
        have HB := Lib.hid hb
        have C1 := Lib.hid c1
        clear hb hs1 hs0 c1 hr1 hr0
        cases b
        · have HK' : Hid (kI xss (m + 1 + 1) = List.range (m + 1 + 1)) := kI_range_eq HK.out (of_decide_eq_false HB.out.symm)
          go_wp2_with fail
          go_quiet ((go_at_call 91; exact C1.out _))
          go_wp2
          go_roundw
          case rel => exact ⟨m + 1, by omega, by go_num, HK', own_drewN HO.out _, grownBy_drewN hg _⟩
          case measure => simp [intOf]; omega
        · have HE : Hid (xss.getD (m + 1) [] = xss.getD m []) := Lib.hid (of_decide_eq_true HB.out.symm)
          have HK2 : Hid (kI xss (m + 2) = List.range (m + 1)) := by
            show _ = _; rw [kI, if_pos ⟨by omega, by simpa using HE.out⟩, HK.out]
          go_wp2_with fail
          go_quiet ((go_at_call 91; exact C1.out _))
          have hgn : w.grownBy (wr.drewN nq) (some g) := grownBy_drewN hg nq
          have HOn : Hid ((wr.drewN nq).ownsRow lo 22 1 (.slice (some ⟨g, 0, none⟩) n c) n (rs.map sl3)) := own_drewN HO.out nq
          generalize wr.drewN nq = wn at hgn HOn ⊢
          clear hc1 hc0 HO hg C1 HB
          have hcm : ¬ (c = m + 1) := by omega
          have HA0 : Hid (cptArr rs (kI xss (m + 2)) = rs) := by
            show _ = _
            rw [HK2.out]; unfold cptArr
            rw [List.length_range]
            have e := range_getD (rs.take (m + 1)) (n := m + 1) (by rw [List.length_take, HN.out.1]; omega)
            have e2 : ((List.range (m + 1)).map fun i => rs.getD i (none, 0, 0)) = rs.take (m + 1) := by
              rw [← e]
              apply List.map_congr_left
              intro i hi
              have hi' : i < m + 1 := by simpa using hi
              simp [List.getD, List.getElem?_take, hi']
            rw [e2, List.take_append_drop]
          go_wp2
          go_loopw [5, 7] (fun kv k2 wk => ∃ u kk : Nat, m + u + 2 ≤ n ∧ kk ≤ m + u + 1 ∧ kv = .int .i64 (kk : Int) ∧ k2 = .int .i64 ((u : Int) + 1) ∧ Hid ((kI xss (m + u + 2)).length = kk) ∧ Hid (wk.ownsRow lo 22 1 (.slice (some ⟨g, 0, none⟩) n c) n ((cptArr rs (kI xss (m + u + 2))).map sl3)) ∧ w.grownBy wk (some g)) (fun _ k2 _ => n - (intOf k2).toNat)
          case atStart => exact ⟨0, m + 1, by omega, by omega, by go_num, by go_num, by rw [Nat.add_zero, HK2.out]; simp [Hid], by rw [Nat.add_zero, HA0.out]; exact HOn, hgn⟩
          case round =>
            obtain ⟨u, kk, hu, hkk, rfl, rfl, HKL, HOk, hgk⟩ := hrel
            by_cases hlu : m + u + 2 < n
            · have hl1 : (u : Int) + 1 < ((n - (m + 1) : Nat) : Int) := by omega
              obtain ⟨r1, hr1⟩ : ∃ r1, r1 = rs.getD (m + u + 2) (none, 0, 0) := ⟨_, rfl⟩
              obtain ⟨r0, hr0⟩ : ∃ r0, r0 = rs.getD (m + u + 1) (none, 0, 0) := ⟨_, rfl⟩
              have hs1 := rowLater HO0.out hgk hl.out hlu
              have hs0 := rowLater HO0.out hgk hl.out (show m + u + 1 < n by omega)
              have hc1 : wr.cell? ⟨g, m + 1 + (u + 1), none⟩ = some (sl3 r1) := by
                rw [HOk.out.cellAt (m + 1 + (u + 1)) (by omega), List.getElem?_map, show m + 1 + (u + 1) = m + u + 2 by omega, cptArr_get (by rw [HKL.out]; omega) (by rw [HN.out.1]; omega), hr1]; rfl
              have hc0 : wr.cell? ⟨g, m + 1 + u, none⟩ = some (sl3 r0) := by
                rw [HOk.out.cellAt (m + 1 + u) (by omega), List.getElem?_map, show m + 1 + u = m + u + 1 by omega, cptArr_get (by rw [HKL.out]; omega) (by rw [HN.out.1]; omega), hr0]; rfl
              have hck : ∃ v, wr.cell? ⟨g, kk, none⟩ = some v := by
                rw [HOk.out.cellAt kk (by omega), List.getElem?_map, cptArr_get (by rw [HKL.out]; exact Nat.le_refl _) (by rw [HN.out.1]; omega)]; exact ⟨_, rfl⟩
              obtain ⟨vk, hck⟩ := hck
              have hfk : wr.frozen? ⟨g, kk, none⟩ = false := HOk.out.frozenAt kk
              have HR1 := Lib.hid hr1
              rw [← hr1] at hs1
              rw [← hr0] at hs0
              obtain ⟨ra1, rn1, rc1⟩ := r1
              obtain ⟨ra0, rn0, rc0⟩ := r0
              simp only [sl3] at hc1 hc0 hs1 hs0
              obtain ⟨b, hb⟩ : ∃ b, b = decide (xss.getD (m + u + 2) [] = xss.getD (m + u + 1) []) := ⟨_, rfl⟩
              have c1 : ∀ q, Calls Try.prog 91 #[.slice ra1 rn1 rc1, .slice ra0 rn0 rc0] (wr.drewN q) (fun e w' => e = .returned (.bool b) ∧ ∃ p, w' = wr.drewN p) := fun q => (slicesEqual_any ra1 ra0 rn1 rn0 rc1 rc0 _ _ (wr.drewN q) (hs1.1.drewN q) (hs0.1.drewN q) hs1.2.1 hs0.2.1 hs1.2.2.1 hs0.2.2.1).mono fun _ _ ⟨h1, h2⟩ => ⟨by rw [h1, hb], ((Quiet.refl wr).drewN q).trans h2⟩
              have HB2 := Lib.hid hb
              have C2 := Lib.hid c1
              clear hb hs1 hs0 c1 hr1 hr0
              cases b
              · have HK3 : Hid (kI xss (m + (u + 1) + 2) = kI xss (m + u + 2) ++ [m + u + 2]) := by
                  show _ = _
                  rw [show m + (u + 1) + 2 = (m + u + 2) + 1 by omega, kI, if_neg (by rintro ⟨_, h3⟩; exact of_decide_eq_false HB2.out.symm (by rw [h3]; congr 1))]
                have HSt := Lib.hid (HOk.out.stored kk (sl3 (ra1, rn1, rc1)))
                have HL3 : Hid ((kI xss (m + (u + 1) + 2)).length = kk + 1) := by show _ = _; rw [HK3.out, List.length_append, HKL.out]; rfl
                have HA3 : Hid (((cptArr rs (kI xss (m + u + 2))).map sl3).set kk (sl3 (ra1, rn1, rc1)) = (cptArr rs (kI xss (m + (u + 1) + 2))).map sl3) := by
                  show _ = _
                  rw [← List.map_set, HR1.out, HK3.out]
                  conv => lhs; rw [← HKL.out]
                  rw [cptArr_set (by rw [HKL.out, HN.out.1]; omega)]
                go_wp2_with fail
                go_quiet ((go_at_call 91; exact C2.out _))
                have h7 : ((wr.drewN nq).setCell ⟨g, kk, none⟩ (.slice ra1 rn1 rc1)).ownsRow lo 22 1 (.slice (some ⟨g, 0, none⟩) n c) n ((cptArr rs (kI xss (m + (u + 1) + 2))).map sl3) ∧ w.grownBy ((wr.drewN nq).setCell ⟨g, kk, none⟩ (.slice ra1 rn1 rc1)) (some g) := by
                  have h8 := (own_drewN HOk.out nq).stored kk (sl3 (ra1, rn1, rc1))
                  rw [HA3.out] at h8
                  exact ⟨h8.1, grownBy_trans (grownBy_drewN hgk nq) h8.2⟩
                have H7 := Lib.hid h7
                clear h7
                go_wp2
                go_roundw
                case rel => exact ⟨u + 1, kk + 1, by omega, by omega, by go_num, by go_num, HL3, H7.out.1, H7.out.2⟩
                case measure => simp [intOf]; omega
              · have HK3 : Hid (kI xss (m + (u + 1) + 2) = kI xss (m + u + 2)) := by
                  show _ = _
                  rw [show m + (u + 1) + 2 = (m + u + 2) + 1 by omega, kI, if_pos ⟨by omega, by have := of_decide_eq_true HB2.out.symm; rw [this]; congr 1⟩]
                go_wp2_with fail
                go_quiet ((go_at_call 91; exact C2.out _))
                go_wp2
                go_roundw
                case rel => exact ⟨u + 1, kk, by omega, by omega, by go_num, by go_num, by rw [HK3.out]; exact HKL, by rw [HK3.out]; exact own_drewN HOk.out _, grownBy_drewN hgk _⟩
                case measure => simp [intOf]; omega
            · have hun : m + u + 2 = n := by omega
              have hl1 : ¬ ((u : Int) + 1 < ((n - (m + 1) : Nat) : Int)) := by omega
              have hkn : kk < n := by omega
              have hkc : ¬ (c = kk) := by omega
              have hkc2 : kk ≤ c := by omega
              obtain ⟨xs', q1, q2, q3⟩ := ownsRow_setCells (List.replicate (n - kk) (Value.slice none 0 0)) kk wr _ HOk.out
              have hcl : ∀ ty, (Builtin.clear_ #[23] ty #[.slice (some ⟨g, kk, none⟩) (n - kk) (c - kk)]).run Try.prog wr = .ok (.tuple #[]) (wr.setCells g kk (List.replicate (n - kk) (Value.slice none 0 0))) :=
                fun ty => Lib.run_clear_slice wr _ _ ty _ Try.underlying23 Try.zeroValue22 rfl rfl g kk _ _ (by omega) (fun t ht => by
                  rw [HOk.out.cellAt (kk + t) (by omega), List.getElem?_map, cptArr_get (by rw [HKL.out]; omega) (by rw [HN.out.1]; omega)]; rfl) (fun t ht => HOk.out.frozenAt _)
              have hown := ownsRow_take q1 (k := kk) (by omega)
              rw [q2, ← List.map_take] at hown
              have hk := kI_lt xss (m + u + 2)
              have hfin := keptRows HO0.out (grownBy_trans hgk q3) (ks := kI xss (m + u + 2)) (fun i hi => by have := hk.1 i hi; omega) hk.2.1 (k := kk) (c' := c) HKL.out (by have e := cptArr_take rs (kI xss (m + u + 2)); rw [HKL.out] at e; rw [← e]; exact hown)
              rw [← cptN_kI, hun] at hfin
              have HF := Lib.hid hfin
              have HG := Lib.hid (grownBy_trans hgk q3)
              clear hfin hown hk q1 q2 q3
              generalize wr.setCells g kk (List.replicate (n - kk) (Value.slice none 0 0)) = wf at hcl HF HG
              go_wp2
              go_ret
              exact ⟨_, _, _, rfl, HF.out, HG.out⟩
      · obtain rfl : m + 1 = n := by omega
        have hown := HO.out
        have hk := kI_lt xss (m + 1)
        have hfin := keptRows HO0.out hg (ks := List.range (m + 1)) (fun i hi => by simpa using hi) (by rw [← HK.out]; exact hk.2.1) (k := m + 1) (c' := c) (by simp) (by rw [range_getD rs HN.out.1]; exact hown)
        have HF := Lib.hid hfin
        have HC : Hid (cptN xss (m + 1) = (List.range (m + 1)).map fun i => xss.getD i []) := by show _ = _; rw [cptN_kI, HK.out]
        clear hfin hown hk
        go_wp2
        go_ret
        exact ⟨_, _, _, rfl, by rw [HC.out]; exact HF.out, hg⟩
end Go.Proofs.Ytjhlianledgiiaa
