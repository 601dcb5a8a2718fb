/- The reference's search of occurrences: the walks. No condition. -/
import Derived.Test.YtjbdelligalmdaaF27
import Derived.Test.YtjbdelligalmdaaF20
namespace Go.Proofs.Ytjbdelligalmdaa
open Go.RowKit

theorem Below.outLo {B : Nat} {w w' : World} (h : Below B w w') : Out B w.heap.size w w' := ⟨h.os, h.tape, h.output, h.size, fun k hk hr => h.block k (by omega)⟩
theorem ArgI.lo {w w' : World} {hi : Nat} {a : Option Addr} {n c : Nat} {xs : List Int} (h : ArgI w hi a n c xs) (hb : Below hi w w') : ArgI w' hi a n c xs := h.out (Below.outLo hb) (Nat.le_refl _)
theorem findK_mono {f : List Int → List (List Int)} {h : List Int} {s j k : Nat} (hjk : j ≤ k) : (findK f h s j).length ≤ (findK f h s k).length := by
  induction k with
  | zero => obtain rfl : j = 0 := by omega
            exact Nat.le_refl _
  | succ k ih =>
    rcases Nat.lt_or_ge k j with h1 | h1
    · obtain rfl : j = k + 1 := by omega
      exact Nat.le_refl _
    · have := ih h1
      simp only [findK, List.length_append]; omega

set_option maxHeartbeats 1000000 in
theorem l7Fits_any (a : Option Addr) (n c : Nat) (P : List Int) (e0 : Option Addr) (qn qc : Nat) (Q : List Int) (b : Option Addr) (m d : Nat) (L : List Int) (w : World) (h : SlI w a n c P) (hQ : SlI w e0 qn qc Q) (hq : SlI w b m d L) (hp : Hid (Pl n L)) (hm0 : 0 < m) (hmq : m ≤ qn) :
    Calls Try.prog 93 #[.slice a n c, .slice e0 qn qc, .slice b m d] w fun e w' => e = .returned (.bool (decide (Fits P Q L))) ∧ Quiet w w' := by
  have HN : Hid (P.length = n) := h.2.1
  have HM : Hid (L.length = m) := hq.2.1
  have HQ : Hid (Q.length = qn) := hQ.2.1
  have hmb := hq.2.2.1
  have hnb := h.2.2.1
  have hqnb := hQ.2.2.1
  obtain ⟨l, hl⟩ : ∃ l, m = l + 1 := ⟨m - 1, by omega⟩
  have hlm : l < m := by omega
  have el : (m : Int) - 1 = (l : Int) := by omega
  have HML : Hid (m - 1 = l) := by show _ = _; omega
  clear hl
  have getP : ∀ (wr : World) (k : Nat), Quiet w wr → k < m → ∃ (bb bo yn ab ao : Nat) (x : Int), b = some ⟨bb, bo, none⟩ ∧ wr.cell? ⟨bb, bo + k, none⟩ = some (.int .i64 ((yn : Int) + 1)) ∧ yn < n ∧ a = some ⟨ab, ao, none⟩ ∧ wr.cell? ⟨ab, ao + yn, none⟩ = some (.int .i64 x) ∧ (atP P L)[k]? = some x := by
    intro wr k hqr hk
    obtain ⟨bb, bo, y, rfl, hy, HY⟩ := (hq.1.quiet hqr).at (i := k) (by rw [HM.out]; exact hk)
    have hy01 := hp.out y (List.mem_of_getElem? HY.out)
    obtain ⟨yn, rfl⟩ : ∃ yn : Nat, y = (yn : Int) + 1 := ⟨(y - 1).toNat, by omega⟩
    have hyn1 : yn < n := by omega
    obtain ⟨ab, ao, x, rfl, hx, HX⟩ := (h.1.quiet hqr).at (i := yn) (by rw [HN.out]; exact hyn1)
    refine ⟨bb, bo, yn, ab, ao, x, rfl, hy, hyn1, rfl, hx, ?_⟩
    simp only [atP, List.getElem?_map, HY.out, Option.map_some]
    rw [show ((yn : Int) + 1 - 1).toNat = yn by omega, getD_of HX.out]
  have GP := Lib.hid getP; clear getP
  go_enter Try.func93, Try.ntmps93
  go_wp2
  go_loopw [8] (fun i wr => ∃ k : Nat, k ≤ l ∧ i = .int .i64 k ∧ Hid (∀ i, i < k → PairOk P Q L i l) ∧ Quiet w wr) (fun i _ => l - (intOf i).toNat)
  case atStart => exact ⟨0, Nat.zero_le _, rfl, fun i hi => by omega, Quiet.refl _⟩
  case round =>
    obtain ⟨k, hk, rfl, HI, hqr⟩ := hrel
    by_cases hlt : k < l
    · obtain ⟨bb, bo, yn, ab, ao, x, rfl, hy, hyn, rfl, hx, HX⟩ := GP.out wr k hqr (by omega)
      have HX' := Lib.hid HX; clear HX
      obtain ⟨bb2, bo2, zn, ab2, ao2, z, hb2, hz1, hzn, ha2, hz, HZ⟩ := GP.out wr l hqr hlm
      have HZ' := Lib.hid HZ; clear HZ
      simp only [Option.some.injEq, Addr.mk.injEq, and_true] at hb2 ha2
      obtain ⟨rfl, rfl⟩ := hb2
      obtain ⟨rfl, rfl⟩ := ha2
      obtain ⟨qb, qo, u, rfl, hu, HU⟩ := (hQ.1.quiet hqr).at (i := k) (by rw [HQ.out]; omega)
      obtain ⟨v, hv, HV⟩ := (hQ.1.quiet hqr).cell (i := l) (by rw [HQ.out]; omega)
      have HPO : Hid (PairOk P Q L k l ↔ ((u < v) ↔ (x < z))) := by
        show _ ↔ _; unfold PairOk; rw [getD_of HU.out, getD_of HV.out, getD_of HX'.out, getD_of HZ'.out]
      have hklt : k < m := by omega
      have hkq : k < qn := by omega
      have hlq : l < qn := by omega
      by_cases huv : u < v
      all_goals
        have Huv := Lib.hid huv
        first
        | have huv' : decide (u < v) = true := decide_eq_true huv
        | have huv' : decide (u < v) = false := decide_eq_false huv
        clear huv
        by_cases hxz : x < z
      all_goals
        have Hxz := Lib.hid hxz
        first
        | have hxz' : decide (x < z) = true := decide_eq_true hxz
        | have hxz' : decide (x < z) = false := decide_eq_false hxz
        clear hxz
        first
        | (have HI' : Hid (∀ i, i < k + 1 → PairOk P Q L i l) := fun i hi => by
            rcases Nat.lt_or_ge i k with h1 | h1
            · exact HI.out i h1
            · obtain rfl : i = k := by omega
              exact HPO.out.2 ⟨fun h1 => by first | exact Hxz.out | exact absurd h1 Huv.out, fun h1 => by first | exact Huv.out | exact absurd h1 Hxz.out⟩
           go_wp2
           go_quiet (fail)
           go_wp2
           go_roundw
           case rel => exact ⟨k + 1, by omega, by go_num, HI', hqr.drewN _⟩
           case measure => simp [intOf]; omega)
        | (have HF : Hid (decide (Fits P Q L) = false) := decide_eq_false fun hf => by
            have h1 := hf k (by rw [HM.out, HML.out]; exact hlt)
            rw [HM.out, HML.out] at h1
            first | exact Hxz.out ((HPO.out.1 h1).1 Huv.out) | exact Huv.out ((HPO.out.1 h1).2 Hxz.out)
           go_wp2
           go_quiet (fail)
           go_wp2
           go_ret
           exact ⟨ret_bool HF.out.symm, hqr.drewN _⟩)
    · have hkl : k = l := by omega
      subst hkl
      have HT : Hid (decide (Fits P Q L) = true) := decide_eq_true fun i hi => by
        rw [HM.out, HML.out] at hi ⊢
        exact HI.out i hi
      go_wp2
      go_ret
      exact ⟨ret_bool HT.out.symm, hqr⟩

set_option maxHeartbeats 1600000 in
set_option maxRecDepth 100000 in
theorem l7Find_any (a : Option Addr) (n c : Nat) (P : List Int) (e0 : Option Addr) (qn qc : Nat) (Q : List Int) (lo : Nat) (hnb : n ≤ 8) (hqnb : qn ≤ 8) (dd : Nat) : ∀ (hg hn hc : Nat) (head : List Int) (oa : Option Addr) (on oc : Nat) (xss : List (List Int)) (w : World) (mid hi : Nat),
    ArgI w lo a n c P → ArgI w lo e0 qn qc Q → OwnIn w mid w.heap.size (some ⟨hg, 0, none⟩) hn hc head → OwnII w lo hi oa on oc xss → (hi ≤ mid ∨ on = 0) → lo ≤ mid → hi ≤ w.heap.size → lo ≤ w.heap.size → hn + dd = qn → Hid (Inc n head) → Hid (on + (fndP P Q n dd head).length ≤ 100000) →
    Calls Try.prog 67 #[.slice a n c, .slice e0 qn qc, .slice (some ⟨hg, 0, none⟩) hn hc, .slice oa on oc] w fun e w' =>
      ∃ a' n' c', e = .returned (.slice a' n' c') ∧ OwnII w' lo w'.heap.size a' n' c' (xss ++ fndP P Q n dd head) ∧ Below lo w w' ∧ Keep w w' ∧ w.heap.size ≤ w'.heap.size := by
  induction dd with
  | zero =>
    intro hg hn hc head oa on oc xss w mid hi hP hQ hh ho hmid hlm hhi hlo hnd hInc hT
    have HE : Hid (fndP P Q n 0 head = [head]) := rfl
    have hnN : hn = qn := by omega
    subst hnN
    have h4 : on < 4194304 := by have h1 := hT.out; rw [HE.out] at h1; simp at h1; omega
    go_enter Try.func67, Try.ntmps67
    go_wp2_with (at_builtin; refine wpList_appII' rfl _ _ rfl lo hi mid _ _ _ _ rfl ho _ _ _ _ hh hmid hlm _ rfl rfl h4 hlo hhi ?_)
    intro a' c' w1 h1 h2 h3 h5
    go_wp2
    go_ret
    exact ⟨_, _, _, rfl, by rw [HE.out]; exact h1, h2, h3, h5⟩
  | succ dd ih =>
    intro hg hn hc head oa on oc xss w mid hi hP hQ hh ho hmid hlm hhi hlo hnd hInc hT
    obtain ⟨F, hF⟩ : ∃ F : List Int → List (List Int), F = fun h' => if Fits P Q h' then fndP P Q n dd h' else [] := ⟨_, rfl⟩
    obtain ⟨s, hs⟩ : ∃ s, s = frN head := ⟨_, rfl⟩
    have HE : Hid (fndP P Q n (dd + 1) head = findK F head s (n + 1 - s)) := by rw [hF, hs]; rfl
    have HFt : Hid (∀ h', Fits P Q h' → F h' = fndP P Q n dd h') := fun h' hf => by rw [hF]; exact if_pos hf
    have HFf : Hid (∀ h', ¬ Fits P Q h' → F h' = []) := fun h' hf => by rw [hF]; exact if_neg hf
    have HS : Hid (s = frN head) := hs
    have hs1 : 1 ≤ s := by rw [hs]; exact frN_pos _
    clear hF hs
    have hne : ((hn : Int) == (qn : Int)) = false := by rw [beq_eq_false_iff_ne]; omega
    have HL : Hid (head.length = hn) := hh.1.1
    have HON : Hid (xss.length = on) := ho.len
    have hhead : (0 < hn ∧ ∃ l tn, w.cell? ⟨hg, l, none⟩ = some (.int .i64 ((tn : Nat) : Int)) ∧ (hn : Int) - 1 = (l : Int) ∧ l < hn ∧ (tn : Int) + 1 = (s : Int) ∧ tn ≤ n) ∨ (hn ≤ 0 ∧ Hid (s = 1)) := by
      rcases Nat.eq_zero_or_pos hn with h0 | h0
      · right
        refine ⟨by omega, ?_⟩
        have : head = [] := List.eq_nil_of_length_eq_zero (by rw [HL.out, h0])
        show _ = _
        rw [HS.out, this]; rfl
      · left
        obtain ⟨y, hy, HY⟩ := hh.1.cell (j := hn - 1) (by omega)
        have hy1 := hInc.out.2.1 y (List.mem_of_getElem? HY.out)
        have hfr : frN head = y.toNat + 1 := by
          unfold frN
          rw [List.getLast?_eq_getElem?, HL.out, HY.out]
        refine ⟨h0, hn - 1, y.toNat, ?_, by omega, by omega, ?_, by omega⟩
        · rw [show ((y.toNat : Nat) : Int) = y by omega]; exact hy
        · rw [HS.out, hfr]; omega
    have hsn : s ≤ n + 1 := by
      rcases hhead with ⟨_, _, _, _, _, _, h1, h2⟩ | ⟨_, h1⟩
      · omega
      · rw [h1.out]; omega
    go_enter Try.func67, Try.ntmps67
    rcases hhead with ⟨h0, l, tn, hcell, ehl, hlhn, es, htn⟩ | ⟨h0, hs1'⟩
    all_goals
      first
      | have hgt : decide (0 < hn) = true := decide_eq_true (by omega)
      | have hgt : decide (0 < hn) = false := decide_eq_false (by omega)
      go_wp2
      go_loopw [3, 10, 11] (fun v x _ wr => ∃ (j kk c1 hi' : Nat) (a1 : Option Addr), j ≤ n + 1 - s ∧ x = .int .i64 ((s : Int) + (j : Int)) ∧ v = .slice a1 kk c1 ∧ OwnII wr lo hi' a1 kk c1 (xss ++ findK F head s j) ∧ hi' ≤ wr.heap.size ∧ lo ≤ wr.heap.size ∧ Hid (OwnIn wr mid wr.heap.size (some ⟨hg, 0, none⟩) hn hc head) ∧ Below lo w wr ∧ Keep w wr ∧ w.heap.size ≤ wr.heap.size) (fun _ x _ _ => n + 1 - (intOf x).toNat)
      case atStart => exact ⟨0, on, oc, hi, oa, Nat.zero_le _, by first | (rw [hs1'.out]; rfl) | go_num, rfl, by simpa [findK] using ho, hhi, hlo, hh, Below.refl _ _, Keep.refl _, Nat.le_refl _⟩
      case round =>
        obtain ⟨j, kk, c1, hi', a1, hj, rfl, rfl, ho1, hhi1, hlo1, hh1, hb1, hk1, hs1r⟩ := hrel
        by_cases hlt : j < n + 1 - s
        · have hgo : (s : Int) + (j : Int) ≤ (n : Int) := by omega
          have HX : Hid (findK F head s (j + 1) = findK F head s j ++ F (head ++ [(s : Int) + (j : Int)])) := rfl
          have HI' : Hid (Inc n (head ++ [(s : Int) + (j : Int)])) := by
            have h1 := hInc.out.snoc (j := j) (by rw [← HS.out]; exact hlt)
            rw [← HS.out] at h1; exact h1
          have HSl : Hid (SlI wr (some ⟨hg, 0, none⟩) hn hc head) := hh1.out.sl (by omega)
          have hP1 := hP.lo hb1
          have hQ1 := hQ.lo hb1
          go_wp2_with (at_builtin; refine wpList_append_all rfl _ _ rfl wr.heap.size _ _ _ _ rfl (OwnI.lit0 wr) ⟨hg, 0, none⟩ hn hc head rfl ⟨HSl.out.1.alloc _, HSl.out.2⟩ (by omega) (by simp) ?_)
          intro a2 c2 w2 h2 h2n _ h2b
          have hb2 := (below_alloc wr (.cells #[] 3)).trans h2b
          go_wp2_with (at_builtin; refine wpList_appI rfl _ _ rfl wr.heap.size _ _ _ _ rfl h2 _ rfl (by omega) hb2.size ?_)
          intro a3 c3 w3 h3 h3b
          have hb3 := hb2.trans h3b
          obtain ⟨g3, rfl, _, _⟩ := h3.head (by omega)
          have hsz3 := hb3.size
          have h3' : OwnIn w3 wr.heap.size w3.heap.size (some ⟨g3, 0, none⟩) (hn + 1) c3 (head ++ [(s : Int) + (j : Int)]) := by simpa using h3.ins
          have hP3 := hP1.below hb3
          have hQ3 := hQ1.below hb3
          have ho3 := ho1.below hb3
          have hFit := l7Fits_any a n c P e0 qn qc Q (some ⟨g3, 0, none⟩) (hn + 1) c3 _ w3 hP3.1 hQ3.1 (h3'.sl (by omega)) HI'.out.2.1 (by omega) (by omega)
          have HB3 : Hid (Below wr.heap.size wr w3) := hb3
          clear h2 h2n h2b hb2 h3 h3b hb3 HSl hP1 hQ1
          by_cases hf : Fits P Q (head ++ [(s : Int) + (j : Int)])
          · rw [decide_eq_true hf] at hFit
            have HFx : Hid (F (head ++ [(s : Int) + (j : Int)]) = fndP P Q n dd (head ++ [(s : Int) + (j : Int)])) := HFt.out _ hf
            have hT' : Hid (kk + (fndP P Q n dd (head ++ [(s : Int) + (j : Int)])).length ≤ 100000) := by
              have h1 := ho1.len
              have h2 := hT.out
              have h4 := findK_mono (f := F) (h := head) (s := s) (j := j + 1) (k := n + 1 - s) (by omega)
              rw [HX.out, HFx.out] at h4
              rw [HE.out] at h2
              have h5 := HON.out
              simp only [List.length_append] at h1 h4
              show kk + _ ≤ _
              omega
            clear hf
            go_wp2_with fail
            refine hFit.mono ?_
            rintro e w4 ⟨rfl, hq4⟩
            have hsz4 : w4.heap.size = w3.heap.size := by obtain ⟨q, rfl⟩ := hq4; rfl
            have h4' : OwnIn w4 wr.heap.size w4.heap.size (some ⟨g3, 0, none⟩) (hn + 1) c3 (head ++ [(s : Int) + (j : Int)]) := by rw [hsz4]; exact h3'.below (hq4.below _)
            have hI := ih g3 (hn + 1) c3 (head ++ [(s : Int) + (j : Int)]) a1 kk c1 _ w4 wr.heap.size hi' (hP3.below (hq4.below _)) (hQ3.below (hq4.below _)) h4' (ho3.below (hq4.below _)) (.inl hhi1) hlo1 (by omega) (by omega) (by omega) HI' hT'
            have HB4 : Hid (Below wr.heap.size wr w4) := HB3.out.trans (hq4.below _)
            clear hFit h4' h3' ho3 hP3 hQ3 hq4
            go_wp2_with fail
            refine hI.mono ?_
            rintro e w5 ⟨a5, n5, c5, rfl, ho5, hb5, hk5, hs5⟩
            clear hI
            have hkk : Keep wr w5 := (Below.keep HB4.out).trans hk5
            have hbb : Below lo w w5 := (hb1.trans (HB4.out.mono hlo1)).trans hb5
            go_wp2
            go_roundw
            case rel =>
              refine ⟨j + 1, n5, c5, w5.heap.size, a5, by omega, by go_num, rfl, ?_, Nat.le_refl _, by omega, ?_, hbb, hk1.trans hkk, by omega⟩
              · rw [HX.out, HFx.out, ← List.append_assoc]; exact ho5
              · exact (hkk.ins hh1.out).mono (Nat.le_refl _) (by omega)
            case measure => simp [intOf]; omega
          · rw [decide_eq_false hf] at hFit
            have HFx : Hid (F (head ++ [(s : Int) + (j : Int)]) = []) := HFf.out _ hf
            clear hf
            go_wp2_with fail
            refine hFit.mono ?_
            rintro e w4 ⟨rfl, hq4⟩
            have hsz4 : w4.heap.size = w3.heap.size := by obtain ⟨q, rfl⟩ := hq4; rfl
            have HB4 : Hid (Below wr.heap.size wr w4) := HB3.out.trans (hq4.below _)
            have ho4 := ho3.below (hq4.below _)
            have hbb : Below lo w w4 := hb1.trans (HB4.out.mono hlo1)
            clear hFit h3' ho3 hP3 hQ3 hq4
            go_wp2
            go_roundw
            case rel =>
              refine ⟨j + 1, kk, c1, hi', a1, by omega, by go_num, rfl, ?_, by omega, by omega, ?_, hbb, hk1.trans (Below.keep HB4.out), by omega⟩
              · rw [HX.out, HFx.out, List.append_nil]; exact ho4
              · exact ((Below.keep HB4.out).ins hh1.out).mono (Nat.le_refl _) (by omega)
            case measure => simp [intOf]; omega
        · have hjn : j = n + 1 - s := by omega
          subst hjn
          rw [← HE.out] at ho1
          have hgo : ¬ ((s : Int) + ((n + 1 - s : Nat) : Int) ≤ (n : Int)) := by omega
          go_wp2
          go_ret
          exact ⟨_, _, _, rfl, ho1.mono (Nat.le_refl _) hhi1, hb1, hk1, hs1r⟩
end Go.Proofs.Ytjbdelligalmdaa
