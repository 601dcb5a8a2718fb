/- HasPattern: the program's search, and the walks. No condition. -/
import Derived.Test.YtjndgppekckhbaaF30
namespace Go.Proofs.Ytjndgppekckhbaa
open Go.RowKit

theorem wpList_unguard {P : Program} {w : World} {ops : Array Oper} {rest : List Oper} {o : Oper} {act : Act} {Q : Exit → Act → World → Prop} (hw : Region.wanted o (yielded ops act.tmps) = true) (h : wpList P ops Q ({ o with guard := none } :: rest) act w) : wpList P ops Q (o :: rest) act w := by
  unfold wpList at h ⊢
  rw [if_pos hw]
  rw [if_pos (by simp [Region.wanted])] at h
  exact h
def up (h : List Int) : List Int := h.map fun v => v + 1
theorem up_snoc (h : List Int) (x : Int) : up (h ++ [x]) = up h ++ [x + 1] := by simp [up]
theorem findK_nil {f : List Int → List (List Int)} {h : List Int} {s : Nat} (k : Nat) (hf : ∀ j, j < k → f (h ++ [(s : Int) + (j : Int)]) = []) : findK f h s k = [] := by
  induction k with
  | zero => rfl
  | succ k ih => simp only [findK]; rw [ih (fun j hj => hf j (by omega)), hf k (by omega)]; rfl
theorem fnd_none (P Q : List Int) (n d : Nat) (hd : 0 < d) (h : List Int) (hb : n + 1 < frN h + d) : fndP P Q n d h = [] := by
  induction d generalizing h with
  | zero => omega
  | succ d ih =>
    simp only [fndP]
    refine findK_nil _ fun j hj => ?_
    split
    · refine ih (by omega) _ ?_
      rw [frN_snoc]; omega
    · rfl
/-- Nothing is found from place x0 (from 0) on: then nothing at all, where nothing was found before. -/
theorem fnd_all (P Q : List Int) (n d : Nat) (h : List Int) (s : Nat) (hs : s + 1 = frN h) (x : Nat) (hx : n < x + d + 1) (hn : ∀ y : Nat, s ≤ y → y < x → Fits P Q (h ++ [(y : Int) + 1]) → fndP P Q n d (h ++ [(y : Int) + 1]) = []) : fndP P Q n (d + 1) h = [] := by
  simp only [fndP]
  refine findK_nil _ fun j hj => ?_
  rw [← hs] at hj ⊢
  have e : ((s + 1 : Nat) : Int) + (j : Int) = ((s + j : Nat) : Int) + 1 := by omega
  rw [e]
  split
  · rename_i hf
    rcases Nat.lt_or_ge (s + j) x with h1 | h1
    · exact hn (s + j) (by omega) h1 hf
    · refine fnd_none P Q n d (by omega) _ ?_
      rw [frN_snoc]; omega
  · rfl
theorem fnd_some (P Q : List Int) (n d : Nat) (h : List Int) (s : Nat) (hs : s + 1 = frN h) (x : Nat) (hsx : s ≤ x) (hxn : x < n) (hf : Fits P Q (h ++ [(x : Int) + 1])) (hne : fndP P Q n d (h ++ [(x : Int) + 1]) ≠ []) : fndP P Q n (d + 1) h ≠ [] := by
  intro h0
  simp only [fndP] at h0
  rw [← hs] at h0
  have h1 := findK_mono (f := fun h' => if Fits P Q h' then fndP P Q n d h' else []) (h := h) (s := s + 1) (j := x - s + 1) (k := n + 1 - (s + 1)) (by omega)
  rw [h0] at h1
  simp only [findK, List.length_append] at h1
  have e : ((s + 1 : Nat) : Int) + ((x - s : Nat) : Int) = (x : Int) + 1 := by omega
  rw [e, if_pos hf] at h1
  rw [List.length_nil] at h1
  exact hne (List.eq_nil_of_length_eq_zero (by omega))

set_option maxHeartbeats 3000000 in
set_option maxRecDepth 100000 in
theorem has_any (a : Option Addr) (n c : Nat) (P : List Int) (e0 : Option Addr) (qn qc : Nat) (Q : List Int) (hnb : n ≤ 8) (hqnb : qn ≤ 8) (dd : Nat) : ∀ (ha : Option Addr) (hn hc : Nat) (h0 : List Int) (w : World),
    SlI w a n c P → SlI w e0 qn qc Q → SlI w ha hn hc h0 → hn + dd = qn → Hid (Inc n (up h0)) →
    Calls Try.prog 55 #[.slice a n c, .slice e0 qn qc, .slice ha hn hc] w (RetV w (.bool (decide (fndP P Q n dd (up h0) ≠ [])))) := by
  induction dd with
  | zero =>
    intro ha hn hc h0 w hP hQ hh hnd hInc
    have HE : Hid (decide (fndP P Q n 0 (up h0) ≠ []) = true) := decide_eq_true (by simp [fndP])
    rw [HE.out]
    have hnN : hn = qn := by omega
    subst hnN
    go_enter Try.func55, Try.ntmps55
    go_wp2
    go_ret
    exact ⟨rfl, Below.refl _ _⟩
  | succ dd ih =>
    intro ha hn hc h0 w hP hQ hh hnd hInc
    have HN : Hid (P.length = n) := hP.2.1
    have HQ : Hid (Q.length = qn) := hQ.2.1
    have HL : Hid (h0.length = hn) := hh.2.1
    have HLU : Hid ((up h0).length = hn) := by show _ = _; unfold up; rw [List.length_map, HL.out]
    obtain ⟨B, hB⟩ : ∃ B, B = decide (fndP P Q n (dd + 1) (up h0) ≠ []) := ⟨_, rfl⟩
    rw [← hB]
    have HB := Lib.hid hB; clear hB
    have hfp := frN_pos (up h0)
    obtain ⟨s, hs⟩ : ∃ s, s + 1 = frN (up h0) := ⟨frN (up h0) - 1, by omega⟩
    have HS : Hid (s + 1 = frN (up h0)) := hs
    clear hs hfp
    have hne : ((hn : Int) == (qn : Int)) = false := by rw [beq_eq_false_iff_ne]; omega
    have ed : (qn : Int) - (hn : Int) = (dd : Int) + 1 := by omega
    have hhead : (0 < hn ∧ ∃ hb ho' l tn, ha = some ⟨hb, ho', none⟩ ∧ w.cell? ⟨hb, ho' + l, none⟩ = some (.int .i64 ((tn : Nat) : Int)) ∧ (hn : Int) - 1 = (l : Int) ∧ l < hn ∧ (tn : Int) + 1 = (s : Int) ∧ tn < n) ∨ (hn ≤ 0 ∧ Hid (s = 0)) := by
      rcases Nat.eq_zero_or_pos hn with h1 | h1
      · right
        refine ⟨by omega, ?_⟩
        have e2 : h0 = [] := List.eq_nil_of_length_eq_zero (by rw [HL.out, h1])
        have h2 := HS.out
        rw [e2] at h2
        have e3 : frN (up []) = 1 := rfl
        show _ = _
        omega
      · left
        obtain ⟨hb, ho', y, e1, hy, HY⟩ := hh.1.at (i := hn - 1) (by rw [HL.out]; omega)
        have HYU : (up h0)[hn - 1]? = some (y + 1) := by unfold up; rw [List.getElem?_map, HY.out]; rfl
        have hy1 := hInc.out.2.1 (y + 1) (List.mem_of_getElem? HYU)
        have hfr : frN (up h0) = (y + 1).toNat + 1 := by
          unfold frN
          rw [List.getLast?_eq_getElem?, HLU.out, HYU]
        have h2 := HS.out
        refine ⟨h1, hb, ho', hn - 1, y.toNat, e1, ?_, by omega, by omega, by omega, by omega⟩
        rw [show ((y.toNat : Nat) : Int) = y by omega]; exact hy
    have hsn : s ≤ n := by
      rcases hhead with ⟨_, _, _, _, _, _, _, _, _, h1, h2⟩ | ⟨_, h1⟩
      · omega
      · rw [h1.out]; omega
    have getA : ∀ (wr : World) (i x : Nat), Below w.heap.size w wr → i < hn → x < n → ∃ (hb ho' yn ab ao qb qo : Nat) (u v uq vq : Int), ha = some ⟨hb, ho', none⟩ ∧ wr.cell? ⟨hb, ho' + i, none⟩ = some (.int .i64 (yn : Int)) ∧ yn < n ∧ a = some ⟨ab, ao, none⟩ ∧ wr.cell? ⟨ab, ao + yn, none⟩ = some (.int .i64 u) ∧ wr.cell? ⟨ab, ao + x, none⟩ = some (.int .i64 v) ∧ e0 = some ⟨qb, qo, none⟩ ∧ wr.cell? ⟨qb, qo + i, none⟩ = some (.int .i64 uq) ∧ wr.cell? ⟨qb, qo + hn, none⟩ = some (.int .i64 vq) ∧ (PairOk P Q (up h0 ++ [(x : Int) + 1]) i hn ↔ ((uq < vq) ↔ (u < v))) := by
      intro wr i x hbr hi hx
      obtain ⟨hb, ho', y, rfl, hy, HY⟩ := (hh.1.below hbr).at (i := i) (by rw [HL.out]; exact hi)
      have HYU : (up h0)[i]? = some (y + 1) := by unfold up; rw [List.getElem?_map, HY.out]; rfl
      have hy1 := hInc.out.2.1 (y + 1) (List.mem_of_getElem? HYU)
      obtain ⟨yn, rfl⟩ : ∃ yn : Nat, y = (yn : Int) := ⟨y.toNat, by omega⟩
      have hyn : yn < n := by omega
      obtain ⟨ab, ao, u, rfl, hu, HU⟩ := (hP.1.below hbr).at (i := yn) (by rw [HN.out]; exact hyn)
      obtain ⟨v, hv, HV⟩ := (hP.1.below hbr).cell (i := x) (by rw [HN.out]; exact hx)
      obtain ⟨qb, qo, uq, rfl, huq, HUQ⟩ := (hQ.1.below hbr).at (i := i) (by rw [HQ.out]; omega)
      obtain ⟨vq, hvq, HVQ⟩ := (hQ.1.below hbr).cell (i := hn) (by rw [HQ.out]; omega)
      refine ⟨hb, ho', yn, ab, ao, qb, qo, u, v, uq, vq, rfl, hy, hyn, rfl, hu, hv, rfl, huq, hvq, ?_⟩
      unfold PairOk
      have e1 : (atP P (up h0 ++ [(x : Int) + 1]))[i]? = some u := by
        rw [atP_get (x := (yn : Int) + 1) (by rw [List.getElem?_append_left (by rw [HLU.out]; exact hi)]; exact HYU)]
        rw [show ((yn : Int) + 1 - 1).toNat = yn by omega, getD_of HU.out]
      have e2 : (atP P (up h0 ++ [(x : Int) + 1]))[hn]? = some v := by
        rw [atP_get (x := (x : Int) + 1) (by rw [List.getElem?_append_right (by rw [HLU.out]; exact Nat.le_refl _), HLU.out, Nat.sub_self]; rfl)]
        rw [show ((x : Int) + 1 - 1).toNat = x by omega, getD_of HV.out]
      rw [getD_of e1, getD_of e2, getD_of HUQ.out, getD_of HVQ.out]
    have GA := Lib.hid getA; clear getA
    have hhnq : hn < qn := by omega
    go_enter Try.func55, Try.ntmps55
    rcases hhead with ⟨hg0, hb, ho', l, tn, rfl, hcell, ehl, hlhn, es, htn⟩ | ⟨hg0, hs1'⟩
    all_goals
      first
      | have hgt : decide (0 < hn) = true := decide_eq_true (by omega)
      | have hgt : decide (0 < hn) = false := decide_eq_false (by omega)
      go_wp2
      go_loopw [9, 10, 11, 12, 44] (fun x _ _ _ _ wr => ∃ xn : Nat, s ≤ xn ∧ xn ≤ n + 1 ∧ x = .int .i64 (xn : Int) ∧ Hid (∀ y : Nat, s ≤ y → y < xn → Fits P Q (up h0 ++ [(y : Int) + 1]) → fndP P Q n dd (up h0 ++ [(y : Int) + 1]) = []) ∧ Below w.heap.size w wr) (fun x _ _ _ _ _ => n + 1 - (intOf x).toNat)
      case atStart => exact ⟨s, Nat.le_refl _, by omega, by first | (rw [hs1'.out]; rfl) | rfl, fun y h1 h2 => by omega, Below.refl _ _⟩
      case round =>
        obtain ⟨xn, hsx, hxn1, rfl, HNo, hb1⟩ := hrel
        by_cases hlt : (xn : Int) ≤ (n : Int) - ((dd : Int) + 1)
        · obtain ⟨wo, rfl⟩ : ∃ wo : World, wo = wr := ⟨_, rfl⟩
          have hxn : xn < n := by omega
          have hFitsIff : Hid (Fits P Q (up h0 ++ [(xn : Int) + 1]) ↔ ∀ i, i < hn → PairOk P Q (up h0 ++ [(xn : Int) + 1]) i hn) := by
            show _ ↔ _; unfold Fits; rw [List.length_append, HLU.out]; simp
          have hwo := hb1.size
          have HB1 : Hid (Below w.heap.size w wo) := hb1
          clear hb1
          go_wp2
          go_loopw [10, 11, 12, 44] (fun okv _ _ i wr => ∃ (k : Nat) (b : Bool), k ≤ hn ∧ i = .int .i64 k ∧ okv = .bool b ∧ Hid (b = decide (∀ i', i' < k → PairOk P Q (up h0 ++ [(xn : Int) + 1]) i' hn)) ∧ Below w.heap.size w wr) (fun _ _ _ i _ => hn - (intOf i).toNat)
          case atStart => exact ⟨0, true, Nat.zero_le _, rfl, rfl, (decide_eq_true (fun i hi => by omega)).symm, HB1.out⟩
          case round =>
            obtain ⟨k, b, hk, rfl, rfl, Hb, hbr⟩ := hrel
            by_cases hkl : k < hn
            · obtain ⟨gb, go', yn, ab, ao, qb, qo, u, v, uq, vq, ea, hy, hyn, rfl, hu, hv, rfl, huq, hvq, hPO⟩ := GA.out wr k xn hbr hkl hxn
              have HPO := Lib.hid hPO; clear hPO
              first | subst ea | (simp only [Option.some.injEq, Addr.mk.injEq, and_true] at ea; obtain ⟨rfl, rfl⟩ := ea)
              have hkq : k < qn := by omega
              cases b with
              | false =>
                have Hb' : Hid (false = decide (∀ i', i' < k + 1 → PairOk P Q (up h0 ++ [(xn : Int) + 1]) i' hn)) := by
                  show false = _
                  symm
                  refine decide_eq_false fun hall => ?_
                  exact of_decide_eq_false Hb.out.symm fun i hi => hall i (by omega)
                go_wp2
                go_quiet (fail)
                go_wp2
                go_roundw
                case rel => exact ⟨k + 1, false, by omega, by go_num, rfl, Hb', hbr.trans (((Quiet.refl _).drewN _).below _)⟩
                case measure => simp [intOf]; omega
              | true =>
                have Hall := of_decide_eq_true Hb.out.symm
                have HAll := Lib.hid Hall; clear Hall
                by_cases huv : u < v
                all_goals
                  have Huv := Lib.hid huv
                  first
                  | have huv' : decide (u < v) = true := decide_eq_true huv
                  | have huv' : decide (u < v) = false := decide_eq_false huv
                  clear huv
                  by_cases hxz : uq < vq
                all_goals
                  have Hxz := Lib.hid hxz
                  first
                  | have hxz' : decide (uq < vq) = true := decide_eq_true hxz
                  | have hxz' : decide (uq < vq) = false := decide_eq_false hxz
                  clear hxz
                  first
                  | (have Hb' : Hid (true = decide (∀ i', i' < k + 1 → PairOk P Q (up h0 ++ [(xn : Int) + 1]) i' hn)) := by
                      show true = _
                      symm
                      refine decide_eq_true fun i hi => ?_
                      rcases Nat.lt_or_ge i k with h1 | h1
                      · exact HAll.out i h1
                      · obtain rfl : i = k := by omega
                        exact HPO.out.2 ⟨fun h1 => by first | exact Huv.out | exact absurd h1 Hxz.out, fun h1 => by first | exact Hxz.out | exact absurd h1 Huv.out⟩
                     go_wp2
                     go_quiet (fail)
                     go_wp2
                     go_roundw
                     case rel => exact ⟨k + 1, true, by omega, by go_num, rfl, Hb', hbr.trans (((Quiet.refl _).drewN _).below _)⟩
                     case measure => simp [intOf]; omega)
                  | (have Hb' : Hid (false = decide (∀ i', i' < k + 1 → PairOk P Q (up h0 ++ [(xn : Int) + 1]) i' hn)) := by
                      show false = _
                      symm
                      refine decide_eq_false fun hall => ?_
                      have h1 := HPO.out.1 (hall k (by omega))
                      first | exact Huv.out (h1.1 Hxz.out) | exact Hxz.out (h1.2 Huv.out)
                     go_wp2
                     go_quiet (fail)
                     go_wp2
                     go_roundw
                     case rel => exact ⟨k + 1, false, by omega, by go_num, rfl, Hb', hbr.trans (((Quiet.refl _).drewN _).below _)⟩
                     case measure => simp [intOf]; omega)
            · have hkn : k = hn := by omega
              subst hkn
              cases b with
              | false =>
                have HNF : Hid (¬ Fits P Q (up h0 ++ [(xn : Int) + 1])) := fun hf => of_decide_eq_false Hb.out.symm (hFitsIff.out.1 hf)
                have HNo' : Hid (∀ y : Nat, s ≤ y → y < xn + 1 → Fits P Q (up h0 ++ [(y : Int) + 1]) → fndP P Q n dd (up h0 ++ [(y : Int) + 1]) = []) := by
                  show ∀ y : Nat, _
                  intro y h1 h2 h3
                  rcases Nat.lt_or_ge y xn with h4 | h4
                  · exact HNo.out y h1 h4 h3
                  · obtain rfl : y = xn := by omega
                    exact absurd h3 HNF.out
                go_wp2
                go_roundw
                case rel => exact ⟨xn + 1, by omega, by omega, by go_num, HNo', hbr⟩
                case measure => simp [intOf]; omega
              | true =>
                have HF : Hid (Fits P Q (up h0 ++ [(xn : Int) + 1])) := hFitsIff.out.2 (of_decide_eq_true Hb.out.symm)
                have hK := slicesClone_any _ k hc h0 wr (hh.below hbr)
                have HI' : Hid (Inc n (up (h0 ++ [(xn : Int)]))) := by
                  show Inc _ _
                  rw [up_snoc]
                  have h1 := hInc.out.snoc (j := xn - s) (by have := HS.out; omega)
                  have e : ((frN (up h0) : Nat) : Int) + ((xn - s : Nat) : Int) = (xn : Int) + 1 := by have := HS.out; omega
                  rw [e] at h1; exact h1
                go_wp2_with fail
                refine hK.mono ?_
                rintro e w4 ⟨a4, n4, c4, rfl, ho4, hb4⟩
                clear hK
                have H4 : Hid (h0.length = n4) := ho4.1
                have hn4 : n4 ≤ k := by have h1 := H4.out; have h2 := HL.out; omega
                have hn4' : k ≤ n4 := by have h1 := H4.out; have h2 := HL.out; omega
                go_wp2_with (at_builtin; refine wpList_unguard ?_ (wpList_appI rfl _ _ rfl wr.heap.size _ _ _ _ rfl ho4 _ rfl (by omega) hb4.size ?_); · (first | rfl | simp [Region.wanted, yielded]))
                intro a5 c5 w5 h5 hb5
                have hb45 := hb4.trans hb5
                have hbb := hbr.trans (hb45.mono hbr.size)
                have hR := ih a5 (n4 + 1) c5 (h0 ++ [(xn : Int)]) w5 (hP.below hbb) (hQ.below hbb) (h5.sl (by omega)) (by omega) HI'
                rw [up_snoc] at hR
                have hszb := hbb.size
                clear h5 hb5 hb45 ho4 hb4
                by_cases hr : fndP P Q n dd (up h0 ++ [(xn : Int) + 1]) = []
                · rw [decide_eq_false (fun h => h hr)] at hR
                  have HNo' : Hid (∀ y : Nat, s ≤ y → y < xn + 1 → Fits P Q (up h0 ++ [(y : Int) + 1]) → fndP P Q n dd (up h0 ++ [(y : Int) + 1]) = []) := by
                    show ∀ y : Nat, _
                    intro y h1 h2 h3
                    rcases Nat.lt_or_ge y xn with h4 | h4
                    · exact HNo.out y h1 h4 h3
                    · obtain rfl : y = xn := by omega
                      exact hr
                  clear hr
                  go_wp2_with fail
                  refine hR.mono ?_
                  rintro e w6 ⟨rfl, hb6⟩
                  have hb6' := hbb.trans (hb6.mono hszb)
                  clear hR
                  go_wp2
                  go_roundw
                  case rel => exact ⟨xn + 1, by omega, by omega, by go_num, HNo', hb6'⟩
                  case measure => simp [intOf]; omega
                · rw [decide_eq_true hr] at hR
                  have HT : Hid (B = true) := by
                    show _ = _
                    rw [HB.out]
                    exact decide_eq_true (fnd_some P Q n dd (up h0) s HS.out xn hsx hxn HF.out hr)
                  clear hr
                  go_wp2_with fail
                  refine hR.mono ?_
                  rintro e w6 ⟨rfl, hb6⟩
                  have hb6' := hbb.trans (hb6.mono hszb)
                  clear hR
                  go_wp2
                  go_ret
                  exact ⟨ret_bool HT.out.symm, hb6'⟩
        · have HF : Hid (B = false) := by
            show _ = _
            rw [HB.out, fnd_all P Q n dd (up h0) s HS.out xn (by omega) HNo.out]; simp
          go_wp2
          go_ret
          exact ⟨ret_bool HF.out.symm, hb1⟩
end Go.Proofs.Ytjndgppekckhbaa
