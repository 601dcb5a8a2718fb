/- The split of the reference: the walk. Condition: a permutation that is not empty. -/
import Derived.Test.YtjhlianledgiiaaF52
namespace Go.Proofs.Ytjhlianledgiiaa
open Go.RowKit

set_option maxHeartbeats 2000000 in
set_option maxRecDepth 100000 in
theorem l6Split_any (a : Option Addr) (n c : Nat) (xs : List Int) (w : World) (h : SlI w a n c xs) (hp : Hid (Perm8 xs)) (hn : 1 ≤ n) :
    Calls Try.prog 69 #[.slice a n c] w (RetS w (splR xs) (splP xs)) := by
  have HN : Hid (xs.length = n) := h.2.1
  have h8 : n ≤ 8 := by have h1 := hp.out.1; have h2 := HN.out; omega
  by_cases hn1 : n = 1
  · have e1 : splR xs = [1] := by unfold splR; rw [if_pos (by rw [HN.out, hn1])]
    have e2 : splP xs = [[1]] := by unfold splP; rw [if_pos (by rw [HN.out, hn1])]
    rw [e1, e2]
    subst hn1
    clear e1 e2 h
    go_enter Try.func69, Try.ntmps69
    go_wp2
    (try simp only [Exit.inBlock, Exit.then])
    refine bodyPost_ret (v := .agg #[.slice (some ⟨w.heap.size + 1, 0, none⟩) 1 1, .slice (some ⟨w.heap.size + 1 + 1 + 1, 0, none⟩) 1 1]) ?_ rfl ?_
    · rw [results_cell1 rfl]
      go_simp
    · have h0 := litAt (w.alloc (.cells #[.slice (some ⟨w.heap.size + 1, 0, none⟩) 1 1, .slice (some ⟨w.heap.size + 1 + 1 + 1, 0, none⟩) 1 1] 25)) (w.heap.size + 1) (by simp) [1] (by simp)
      have h1 := litAt ((w.alloc (.cells #[.slice (some ⟨w.heap.size + 1, 0, none⟩) 1 1, .slice (some ⟨w.heap.size + 1 + 1 + 1, 0, none⟩) 1 1] 25)).alloc (.cells #[.int .i64 1] 3)) (w.heap.size + 1 + 1) (by simp) [1] (by simp)
      have h2 := rows1 _ (w.heap.size + 1 + 1 + 1) (w.heap.size + 1 + 1) (w.heap.size + 1 + 1 + 1) (by simp) _ _ _ _ h1 (by omega) (Nat.le_refl _)
      refine ⟨_, _, _, _, _, _, rfl, ⟨_, h2.mono (by omega) (by simp), (((h0.below (below_alloc _ _)).below (below_alloc _ _)).mono (by omega) (by simp <;> omega)), ?_⟩, (((below_alloc w _).alloc (by simp) _).alloc (by simp; omega) _).alloc (by simp; omega) _⟩
      intro r hr p q hp hq
      simp only [List.mem_singleton] at hr
      subst hr
      cases hp; cases hq
      simp
  · have h2 : 2 ≤ n := by omega
    have hb0 := below_alloc w (.cells #[.slice none 0 0, .slice none 0 0] 25)
    have hS := spec_SumParts a n c xs _ (h.below hb0)
    rw [show sumPsP xs = sumPs xs from if_pos hp.out] at hS
    go_enter Try.func69, Try.ntmps69
    go_wp2_with fail
    refine hS.mono ?_
    rintro e w1 ⟨a1, n1, c1, rfl, ho1, hb1⟩
    have hsz1 : w.heap.size + 1 ≤ w1.heap.size := by have := hb1.size; simpa using this
    have hbw1 : Below w.heap.size w w1 := hb0.trans (hb1.mono (by simp))
    have t1 : w1.cell? ⟨w.heap.size, 0, none⟩ = some (.slice none 0 0) := cellThru hb1 (by simp) (by simp)
    have t2 : w1.cell? ⟨w.heap.size, 1, none⟩ = some (.slice none 0 0) := cellThru hb1 (by simp) (by simp)
    have f1 : w1.frozen? ⟨w.heap.size, 0, none⟩ = false := frozenThru hb1 (by simp) (by simp)
    have f2 : w1.frozen? ⟨w.heap.size, 1, none⟩ = false := frozenThru hb1 (by simp) (by simp)
    have hlt1 : w.heap.size < w1.heap.size := by omega
    have ho1' : OwnII w1 (w.heap.size + 1) w1.heap.size a1 n1 c1 (sumPs xs) := ho1.mono (by simp) (Nat.le_refl _)
    have HL1 : Hid ((sumPs xs).length = n1) := ho1.len
    have hn1b : n1 ≤ 8 := by have h1 := HL1.out; have h3 := length_sumPs hp.out; omega
    clear hS ho1
    by_cases hs : 1 < n1
    · have e1 : splR xs = [1, 2] := by unfold splR; rw [if_neg (by rw [HN.out]; omega), if_pos (by rw [HL1.out]; exact hs)]
      have e2 : splP xs = sumSplit false (sumPs xs) := by unfold splP; rw [if_neg (by rw [HN.out]; omega), if_pos (by rw [HL1.out]; exact hs)]
      have HE1 := Lib.hid e1
      have HE2 := Lib.hid e2
      have HJO := (sumSplit_spec (sk := false) (by rw [HL1.out]; exact hs) (rows_sumPs hp.out) (pos_sumPs xs) (totL_sumPs xs) hp.out.1).1
      have hii := ho1'.iisT ⟨by have h1 := totL_sumPs xs; have h3 := hp.out.1; omega, by have h1 := HL1.out; omega⟩
      have hL := l6Sum_any a1 n1 c1 (sumPs xs) false w1 hii hs HJO
      clear e1 e2 hii ho1' HJO
      go_wp2_with fail
      refine hL.mono ?_
      rintro e w2 ⟨a2, n2, c2, b2, m2, d2, rfl, ho2, hb3⟩
      have u1 := cellThru hb3 hlt1 t1
      have u2 := cellThru hb3 hlt1 t2
      have k1 := frozenThru hb3 hlt1 f1
      have k2 := frozenThru hb3 hlt1 f2
      have hlt2 := Nat.lt_of_lt_of_le hlt1 hb3.size
      have hbw2 : Below w.heap.size w w2 := hbw1.trans (hb3.mono hbw1.size)
      have HO2 := Lib.hid ho2
      clear hL t1 t2 f1 f2 ho2
      go_wp2
      (try simp only [Exit.inBlock, Exit.then])
      refine bodyPost_ret (v := .agg #[.slice a2 n2 c2, .slice b2 m2 d2]) ?_ rfl ?_
      · rw [results_cell1 rfl]
        go_simp
      · have hou : Out w.heap.size (w.heap.size + 1) w2 ((w2.setCell ⟨w.heap.size, 0, none⟩ (.slice a2 n2 c2)).setCell ⟨w.heap.size, 1, none⟩ (.slice b2 m2 d2)) := (out_setCell (by simp) (by simp) _).trans (out_setCell (by simp) (by simp) _)
        rw [HE1.out, HE2.out]
        exact ⟨_, _, _, _, _, _, rfl, ((HO2.out.out hou (.inr (by omega))).mono (by omega) (by simp)), (hbw2.setCell (by simp) _).setCell (by simp) _⟩
    · have hs' : ¬ ((1 : Int) < (n1 : Int)) := by omega
      have hSk := spec_SkewParts a n c xs w1 (h.below hbw1)
      rw [show skewPsP xs = skewPs xs from if_pos hp.out] at hSk
      go_wp2_with fail
      refine hSk.mono ?_
      rintro e wk ⟨ak, nk, ck, rfl, hok, hbk⟩
      have tk1 := cellThru hbk hlt1 t1
      have tk2 := cellThru hbk hlt1 t2
      have fk1 := frozenThru hbk hlt1 f1
      have fk2 := frozenThru hbk hlt1 f2
      have hszk := hbk.size
      have hltk : w.heap.size < wk.heap.size := by omega
      have hbwk : Below w.heap.size w wk := hbw1.trans (hbk.mono hbw1.size)
      have hok' : OwnII wk (w.heap.size + 1) wk.heap.size ak nk ck (skewPs xs) := hok.mono (by omega) (Nat.le_refl _)
      have HLk : Hid ((skewPs xs).length = nk) := hok.len
      have hnkb : nk ≤ 8 := by have h1 := HLk.out; have h3 : (skewPs xs).length ≤ 8 := (by unfold skewPs; rw [List.length_map]; exact length_sumPs (perm8_compl hp.out)); omega
      clear hSk hok t1 t2 f1 f2 ho1' hlt1
      by_cases hs2 : 1 < nk
      · have e1 : splR xs = [2, 1] := by unfold splR; rw [if_neg (by rw [HN.out]; omega), if_neg (by rw [HL1.out]; exact hs), if_pos (by rw [HLk.out]; exact hs2)]
        have e2 : splP xs = sumSplit true (skewPs xs) := by unfold splP; rw [if_neg (by rw [HN.out]; omega), if_neg (by rw [HL1.out]; exact hs), if_pos (by rw [HLk.out]; exact hs2)]
        have HE1 := Lib.hid e1
        have HE2 := Lib.hid e2
        have HJO := (sumSplit_spec (sk := true) (by rw [HLk.out]; exact hs2) (rows_skewPs hp.out) (pos_skewPs xs) (totL_skewPs xs) hp.out.1).1
        have hii := hok'.iisT ⟨by have h1 := totL_skewPs xs; have h3 := hp.out.1; omega, by have h1 := HLk.out; omega⟩
        have hL := l6Sum_any ak nk ck (skewPs xs) true wk hii hs2 HJO
        clear e1 e2 hii hok' HJO
        go_wp2_with fail
        refine hL.mono ?_
        rintro e w2 ⟨a2, n2, c2, b2, m2, d2, rfl, ho2, hb3⟩
        have u1 := cellThru hb3 hltk tk1
        have u2 := cellThru hb3 hltk tk2
        have k1 := frozenThru hb3 hltk fk1
        have k2 := frozenThru hb3 hltk fk2
        have hlt2 := Nat.lt_of_lt_of_le hltk hb3.size
        have hbw2 : Below w.heap.size w w2 := hbwk.trans (hb3.mono hbwk.size)
        have HO2 := Lib.hid ho2
        clear hL tk1 tk2 fk1 fk2 ho2
        go_wp2
        (try simp only [Exit.inBlock, Exit.then])
        refine bodyPost_ret (v := .agg #[.slice a2 n2 c2, .slice b2 m2 d2]) ?_ rfl ?_
        · rw [results_cell1 rfl]
          go_simp
        · have hou : Out w.heap.size (w.heap.size + 1) w2 ((w2.setCell ⟨w.heap.size, 0, none⟩ (.slice a2 n2 c2)).setCell ⟨w.heap.size, 1, none⟩ (.slice b2 m2 d2)) := (out_setCell (by simp) (by simp) _).trans (out_setCell (by simp) (by simp) _)
          rw [HE1.out, HE2.out]
          exact ⟨_, _, _, _, _, _, rfl, ((HO2.out.out hou (.inr (by omega))).mono (by omega) (by simp)), (hbw2.setCell (by simp) _).setCell (by simp) _⟩
      · have hs2' : ¬ ((1 : Int) < (nk : Int)) := by omega
        have HE1 : Hid (splR xs = pat ((segs xs).map (headOf xs))) := by
          show _ = _; unfold splR; rw [if_neg (by rw [HN.out]; omega), if_neg (by rw [HL1.out]; exact hs), if_neg (by rw [HLk.out]; exact hs2)]
        have HE2 : Hid (splP xs = (segs xs).map (partOf xs)) := by
          show _ = _; unfold splP; rw [if_neg (by rw [HN.out]; omega), if_neg (by rw [HL1.out]; exact hs), if_neg (by rw [HLk.out]; exact hs2)]
        have hU : Hid (Upb 1048576 xs) := hp.out.upb
        have hnc := h.2.2.2.1
        obtain ⟨ab, ao, x0, rfl, _, _⟩ := h.1.at (i := 0) (by rw [HN.out]; omega)
        have HW := Lib.hid (h.below hbwk)
        have hbs0 : Below wk.heap.size wk ((wk.alloc (.cells #[.slice none 0 0, .slice none 0 0] 25)).alloc (.cells #[] 3)) := (below_alloc wk _).alloc (by simp) _
        have hO6 : OwnI ((wk.alloc (.cells #[.slice none 0 0, .slice none 0 0] 25)).alloc (.cells #[] 3)) (wk.heap.size + 1) (some ⟨wk.heap.size + 1, 0, none⟩) 0 0 [] := by
          have := OwnI.lit0 (wk.alloc (.cells #[.slice none 0 0, .slice none 0 0] 25)); simpa using this
        go_wp2
        go_loopw [6, 7, 8] (fun hv fv _ wr => ∃ (f gd q c6 c5 : Nat) (done : List (Nat × Nat)) (a6 a5 : Option Addr) (rs : List (Option Addr × Nat × Nat)),
          f ≤ n ∧ n - f ≤ gd ∧ q ≤ f ∧ fv = .int .i64 (f : Int) ∧ hv = .slice a6 q c6 ∧ Hid (segs xs = done ++ dfl xs gd f) ∧ OwnI wr (wk.heap.size + 1) a6 q c6 (done.map (headOf xs)) ∧
          wr.cell? ⟨wk.heap.size, 0, none⟩ = some (.slice none 0 0) ∧ wr.cell? ⟨wk.heap.size, 1, none⟩ = some (.slice a5 q c5) ∧ wr.frozen? ⟨wk.heap.size, 0, none⟩ = false ∧ wr.frozen? ⟨wk.heap.size, 1, none⟩ = false ∧
          Hid (OwnIIr wr (wk.heap.size + 1) wr.heap.size a5 q c5 rs (done.map (partOf xs))) ∧ Hid (∀ r ∈ rs, ∀ p q, r.1 = some p → a6 = some q → p.block ≠ q.block) ∧ Below wk.heap.size wk wr ∧ wk.heap.size + 1 ≤ wr.heap.size) (fun _ fv _ _ => n - (intOf fv).toNat)
        case atStart =>
          refine ⟨0, n, 0, 0, 0, [], _, none, [], Nat.zero_le _, by omega, Nat.le_refl _, rfl, rfl, by simp [Hid, segs, HN.out], hO6, ?_, ?_, ?_, ?_, ?_, by simp [Hid], hbs0, by simp⟩
          · rw [World.cell?_alloc_past (hn := by simp), World.cell?_alloc_at (hn := rfl)]; rfl
          · rw [World.cell?_alloc_past (hn := by simp), World.cell?_alloc_at (hn := rfl)]; rfl
          · rw [World.frozen?_alloc_past (hn := by simp), World.frozen?_alloc_at (hn := rfl)]
          · rw [World.frozen?_alloc_past (hn := by simp), World.frozen?_alloc_at (hn := rfl)]
          · exact ⟨rfl, rfl, World.ownsRow_nil _ _ _ _, by simp, by simp, by simp⟩
        case round =>
          obtain ⟨f, gd, q, c6, c5, done, a6, a5, rs, hf, hgd, hqf, rfl, rfl, HS, ho6, m1, m2, fz1, fz2, HO5, HD, hb, hsz⟩ := hrel
          by_cases hlt : f < n
          · have hsr := HW.out.below hb
            obtain ⟨gd', hdn, hgd'⟩ := dfl_next (xs := xs) (g := gd) (f := f) (by rw [HN.out]; exact hlt) (by rw [HN.out]; exact hgd)
            have htb := toOf_bd (xs := xs) (f := f) (by rw [HN.out]; exact hlt)
            have HTO : Hid (toOf xs f = upTo xs f (n - f - 1)) := by show _ = _; unfold toOf; rw [HN.out]
            rw [HN.out] at htb hgd'
            have HDN := Lib.hid hdn
            obtain ⟨v, hv, HV⟩ := hsr.1.cell (i := f) (by rw [HN.out]; exact hlt)
            have HSR := Lib.hid hsr
            clear hdn hsr
            obtain ⟨wo, rfl⟩ : ∃ wo : World, wo = wr := ⟨_, rfl⟩
            go_wp2
            go_loop [8] (fun tv => ∃ j : Nat, j ≤ n - f - 1 ∧ tv = .int .i64 ((f : Int) + (j : Int)) ∧ Hid (upTo xs f j = toOf xs f)) (fun tv => (intOf tv + 1).toNat)
            case atStart => exact ⟨n - f - 1, Nat.le_refl _, by go_num, HTO.out.symm⟩
            case round =>
              obtain ⟨j, hj, rfl, HJ⟩ := hrel
              have hrun : (j + 1 = n ∨ runB xs f (j + 1) = false) → ∃ i, j = i + 1 := by
                intro h
                cases j with
                | zero =>
                  rcases h with h | h
                  · omega
                  · exfalso
                    have : runB xs f (0 + 1) = true := by
                      unfold runB
                      have e1 : mxAt xs f 1 = xs.getD f 0 := by simp only [mxAt, Nat.add_zero]; omega
                      have e2 : mnAt xs f 1 = xs.getD f 0 := by simp only [mnAt, Nat.add_zero]; omega
                      rw [Nat.zero_add, e1, e2]; simp
                    rw [this] at h; cases h
                | succ i => exact ⟨i, rfl⟩
              have HRUN := Lib.hid hrun
              clear hrun
              by_cases hjn : j + 1 = n
              · obtain ⟨i, hi⟩ := HRUN.out (.inl hjn)
                clear HRUN
                subst hi
                have g1 : ((f : Int) + ((i : Int) + 1) - (f : Int) + 1 == (n : Int)) = true := by rw [beq_iff_eq]; omega
                have HJ' : Hid (upTo xs f i = toOf xs f) := by
                  show _ = _; rw [← HJ.out, upTo, if_neg (by rw [HN.out]; rintro ⟨h1, _⟩; omega)]
                have hjn2 : i + 1 + 1 ≤ n := by omega
                clear hjn
                go_wp2
                go_round
                case rel => exact ⟨i, by omega, by go_num, HJ'⟩
                case measure => simp [intOf]; omega
              · have hR := l5Run_any _ n c f (j + 1) xs wo HSR.out hU (by omega) (by omega) ((f : Int) + (j : Int)) (by omega)
                have g1 : ((f : Int) + (j : Int) - (f : Int) + 1 == (n : Int)) = false := by rw [beq_eq_false_iff_ne]; omega
                cases hr : runB xs f (j + 1)
                · obtain ⟨i, hi⟩ := HRUN.out (.inr hr)
                  clear HRUN
                  subst hi
                  rw [hr] at hR
                  have HJ' : Hid (upTo xs f i = toOf xs f) := by
                    show _ = _; rw [← HJ.out, upTo, if_neg (by rintro ⟨_, h1⟩; rw [show i + 2 = i + 1 + 1 from rfl, hr] at h1; cases h1)]
                  clear hr
                  go_wp2_with fail
                  refine hR.mono ?_
                  rintro e w2 ⟨rfl, hw2⟩
                  obtain rfl : wo = w2 := hw2.symm
                  clear hR
                  go_wp2
                  go_round
                  case rel => exact ⟨i, by omega, by go_num, HJ'⟩
                  case measure => simp [intOf]; omega
                · rw [hr] at hR
                  have HTj : Hid (toOf xs f = f + j + 1) := by
                    show _ = _; rw [← HJ.out]
                    cases j with
                    | zero => rfl
                    | succ i => rw [upTo, if_pos ⟨by rw [HN.out]; omega, hr⟩]; omega
                  obtain ⟨T, hT⟩ : ∃ T, T = toOf xs f := ⟨_, rfl⟩
                  rw [← hT] at htb hgd'
                  have hTf : T = f + j + 1 := by rw [hT]; exact HTj.out
                  have HT := Lib.hid hT
                  clear hT HRUN hr
                  obtain ⟨ht1, ht2⟩ := htb
                  go_wp2_with fail
                  refine hR.mono ?_
                  rintro e w2 ⟨rfl, hw2⟩
                  obtain rfl : wo = w2 := hw2.symm
                  clear hR
                  have hltw : wk.heap.size < wo.heap.size := by omega
                  have hcf : ¬ (c = f) := by omega
                  have hs8 : ∀ W, Below wo.heap.size wo W → Calls Try.prog 78 #[.slice (some ⟨ab, ao + f, none⟩) (T - f) (c - f)] W (RetI W (partOf xs (f, T))) := by
                    intro W hbW
                    have hx := HSR.out.below hbW
                    exact l2Pattern_any _ _ _ _ _ ⟨(hx.1.drop f).take (T - f), by rw [List.length_take, List.length_drop, HN.out]; omega, by omega, by omega, by simp⟩
                  have eT : (f : Int) + (j : Int) + 1 = (T : Int) := by omega
                  have eW : IntKind.i64.wrap (T : Int) = (T : Int) := by rw [IntWalk.i64_in _ (by omega)]
                  have i4 : f ≤ T := by omega
                  have i5 : (0 : Int) ≤ (T : Int) := by omega
                  have HP8 := Lib.hid hs8
                  have i1 : (f : Int) ≤ (T : Int) := by omega
                  have i2 : (T : Int) ≤ (c : Int) := by omega
                  have i3 : (0 : Int) ≤ (f : Int) := by omega
                  have hne6 : some wk.heap.size ≠ (Value.slice a6 q c6).ownBlock := by
                    intro e
                    obtain ⟨p, hp', hpb⟩ := ownBlock_some e.symm
                    have := (ho6.lo p hp').1; omega
                  have HO6 := Lib.hid ho6
                  have HB0 := Lib.hid hb
                  clear hs8 hv HV ho6 hb hTf
                  go_wp2_with fail
                  go_region_law ((first
                    | (go_simp; go_at_call 78; refine (HP8.out _ (Below.refl _ _).drew).mono ?_; rintro e w2 ⟨a8, n8, c8, rfl, ho8, hb8⟩; have hw12 : Below wo.heap.size wo w2 := (Below.refl _ wo).drew.trans hb8; have y1 := cellThru hw12 hltw m1; have y2 := cellThru hw12 hltw m2; have x1 := frozenThru hw12 hltw fz1; have x2 := frozenThru hw12 hltw fz2; have hz12 := hw12.size; have HO52 := HO5.out.below hw12; have hlt52 := Nat.lt_of_lt_of_le hltw hz12)
                    | (refine step_append_row rfl _ _ rfl (wk.heap.size + 1) wo.heap.size _ _ _ _ _ rfl HO52 a8 n8 c8 wo.heap.size _ ho8 (Nat.le_refl _) (by omega) rfl (by omega) (by omega) (by omega) ?_; intro a9 c9 w3 hO9 hg9; have hne9 : some wk.heap.size ≠ (Value.slice a5 q c5).ownBlock := (by intro e; obtain ⟨p, hp', hpb⟩ := ownBlock_some e.symm; subst hp'; have := (HO52.2.2.1.lt _ rfl).1; omega); have k1 := hg9.cell y1 hne9; have k2 := hg9.cell y2 hne9; have l1 : w3.frozen? ⟨wk.heap.size, 0, none⟩ = false := (World.frozen?_of_block (w := w2) (hg9.block _ hlt52 hne9)).trans x1; have l2 : w3.frozen? ⟨wk.heap.size, 1, none⟩ = false := (World.frozen?_of_block (w := w2) (hg9.block _ hlt52 hne9)).trans x2)))
                  all_goals
                    have hsz9 := hg9.size
                    have hou : Out wk.heap.size (wk.heap.size + 1) w3 (w3.setCell ⟨wk.heap.size, 1, none⟩ (.slice a9 (q + 1) c9)) := out_setCell (by simp) (by simp) _
                    have hb9 : Below wk.heap.size wk w3 := ((HB0.out.trans (hw12.mono (by omega))).grown hg9 (by omega) (fun k hk => by
                      obtain ⟨p, hp', hpb⟩ := ownBlock_some hk
                      subst hp'
                      have := (HO52.2.2.1.lt _ rfl).1; omega))
                    have hh6 : OwnI (w3.setCell ⟨wk.heap.size, 1, none⟩ (.slice a9 (q + 1) c9)) (wk.heap.size + 1) a6 q c6 (done.map (headOf xs)) := by
                      have h1 := (HO6.out.below hw12).grown hg9 (own_types_ne (HO6.out.below hw12).2 HO52.2.2.1 (by decide))
                      exact (OwnIn.out h1.ins hou (.inr (Nat.le_refl _))).1
                    have hh9 : OwnIIr (w3.setCell ⟨wk.heap.size, 1, none⟩ (.slice a9 (q + 1) c9)) (wk.heap.size + 1) w3.heap.size a9 (q + 1) c9 (rs ++ [(a8, n8, c8)]) ((done ++ [(f, T)]).map (partOf xs)) := by
                      have e1 : (done ++ [(f, T)]).map (partOf xs) = done.map (partOf xs) ++ [partOf xs (f, T)] := by rw [List.map_append]; rfl
                      rw [e1]
                      exact hO9.out hou (.inr (Nat.le_refl _))
                    have hcl0 : (w3.setCell ⟨wk.heap.size, 1, none⟩ (.slice a9 (q + 1) c9)).cell? ⟨wk.heap.size, 0, none⟩ = some (.slice none 0 0) := by rw [World.cell?_setCell_other _ _ _ _ (by simp)]; exact k1
                    have hcl1 : (w3.setCell ⟨wk.heap.size, 1, none⟩ (.slice a9 (q + 1) c9)).cell? ⟨wk.heap.size, 1, none⟩ = some (.slice a9 (q + 1) c9) := World.cell?_setCell_same _ _ _ k2
                    have hfr0 : (w3.setCell ⟨wk.heap.size, 1, none⟩ (.slice a9 (q + 1) c9)).frozen? ⟨wk.heap.size, 0, none⟩ = false := by rw [World.frozen?_setCell]; exact l1
                    have hfr1 : (w3.setCell ⟨wk.heap.size, 1, none⟩ (.slice a9 (q + 1) c9)).frozen? ⟨wk.heap.size, 1, none⟩ = false := by rw [World.frozen?_setCell]; exact l2
                    have hbS : Below wk.heap.size wk (w3.setCell ⟨wk.heap.size, 1, none⟩ (.slice a9 (q + 1) c9)) := hb9.setCell (by simp) _
                    have hwz : wo.heap.size ≤ (w3.setCell ⟨wk.heap.size, 1, none⟩ (.slice a9 (q + 1) c9)).heap.size := by rw [World.size_setCell]; omega
                    have hwz3 : (w3.setCell ⟨wk.heap.size, 1, none⟩ (.slice a9 (q + 1) c9)).heap.size = w3.heap.size := by rw [World.size_setCell]
                    have hd9 : ∀ r ∈ rs ++ [(a8, n8, c8)], ∀ p, r.1 = some p → p.block < w3.heap.size ∧ ∀ q, a6 = some q → p.block ≠ q.block := by
                      intro r hr p hp'
                      obtain ⟨i, hi⟩ := List.getElem?_of_mem hr
                      obtain ⟨g1, g2, g3, g4, g5, g6⟩ := hh9
                      have hil := (List.getElem?_eq_some_iff.1 hi).1
                      have hpb := (g5 i r _ hi (List.getElem?_eq_getElem (by omega))).2 p hp'
                      refine ⟨hpb, fun q' hq' => ?_⟩
                      rcases List.mem_append.1 hr with h1 | h1
                      · exact HD.out r h1 p q' hp' hq'
                      · simp only [List.mem_singleton] at h1
                        subst h1
                        have e1 := (ho8.lo p hp').1
                        have e2 := (HO6.out.lo q' hq').2
                        simp at e1
                        omega
                    obtain ⟨v, hv, HV⟩ := (HW.out.below hbS).1.cell (i := f) (by rw [HN.out]; exact hlt)
                    generalize w3.setCell ⟨wk.heap.size, 1, none⟩ (.slice a9 (q + 1) c9) = w4 at hh6 hh9 hcl0 hcl1 hfr0 hfr1 hbS hv hwz hwz3 ⊢
                    have HH9 := Lib.hid hh9
                    have HD9 := Lib.hid hd9
                    have HWZ3 := Lib.hid hwz3
                    clear hwz3 hh9 hd9 hO9 hg9 ho8 hb8 HO52 k1 k2 l1 l2 y1 y2 x1 x2 hou hb9
                    go_wp2_with (at_builtin; refine wpList_appIx rfl _ _ rfl (wk.heap.size + 1) _ _ _ _ rfl hh6 _ rfl (by omega) (by omega) ?_)
                    intro a7 c7 w5 ho7 hg7 hloc
                    have hsz7 := hg7.size
                    have hwz3 := HWZ3.out
                    have hlt4 : wk.heap.size < w4.heap.size := by omega
                    have m1' := hg7.cell hcl0 hne6
                    have m2' := hg7.cell hcl1 hne6
                    have z1' : w5.frozen? ⟨wk.heap.size, 0, none⟩ = false := (World.frozen?_of_block (w := w4) (hg7.block _ hlt4 hne6)).trans hfr0
                    have z2' : w5.frozen? ⟨wk.heap.size, 1, none⟩ = false := (World.frozen?_of_block (w := w4) (hg7.block _ hlt4 hne6)).trans hfr1
                    have hO5' : OwnIIr w5 (wk.heap.size + 1) w5.heap.size a9 (q + 1) c9 (rs ++ [(a8, n8, c8)]) ((done ++ [(f, T)]).map (partOf xs)) := (HH9.out.grownRow hg7 (fun k hk r hr p hp' => by
                      obtain ⟨q', hq', hqb⟩ := ownBlock_some hk
                      rw [← hqb]; exact (HD9.out r hr p hp').2 q' hq') (own_types_ne HH9.out.2.2.1 hh6.2 (by decide))).mono (Nat.le_refl _) (by omega)
                    have hb1' : Below wk.heap.size wk w5 := hbS.grown hg7 (by omega) (fun k hk => by
                      obtain ⟨p, hp', hpb⟩ := ownBlock_some hk
                      have := (hh6.lo p hp').1; omega)
                    have hd' : ∀ r ∈ rs ++ [(a8, n8, c8)], ∀ p q, r.1 = some p → a7 = some q → p.block ≠ q.block := by
                      intro r hr p q' hp' hq'
                      have h1 := HD9.out r hr p hp'
                      rcases hloc q' hq' with h2 | h2
                      · exact h1.2 q' h2
                      · have := h1.1; omega
                    have ho7' : OwnI w5 (wk.heap.size + 1) a7 (q + 1) c7 ((done ++ [(f, T)]).map (headOf xs)) := by
                      have e1 : (done ++ [(f, T)]).map (headOf xs) = done.map (headOf xs) ++ [v] := by
                        rw [List.map_append]; simp only [List.map_cons, List.map_nil, headOf, getD_of HV.out]
                      rw [e1]; exact ho7
                    have HH7 := Lib.hid ho7'
                    have HH5 := Lib.hid hO5'
                    have HDD := Lib.hid hd'
                    have HS9 : Hid (segs xs = (done ++ [(f, T)]) ++ dfl xs gd' T) := by
                      show _ = _
                      rw [HS.out, HDN.out, ← HT.out, List.append_assoc]; rfl
                    have HBB := Lib.hid hb1'
                    have hz5 : wk.heap.size + 1 ≤ w5.heap.size := by omega
                    clear hwz3 hO5' hd' ho7' ho7 hg7 hloc hh6 hcl0 hcl1 hfr0 hfr1 hb1' hbS hv
                    go_wp2
                    go_roundw
                    case rel => exact ⟨T, gd', q + 1, c7, c9, done ++ [(f, T)], a7, a9, rs ++ [(a8, n8, c8)], by omega, by omega, by omega, by rw [← eT], rfl, HS9, HH7.out, m1', m2', z1', z2', HH5, HDD, HBB.out, hz5⟩
                    case measure => simp [intOf]; omega
          · obtain rfl : f = n := by omega
            have HSd : Hid (segs xs = done) := by
              show _ = _; rw [HS.out, dfl_end (by rw [HN.out]; exact Nat.le_refl _), List.append_nil]
            have hq8 : q ≤ 8 := by omega
            have hP := l2Pattern_any a6 q c6 _ wr (ho6.sl (by omega))
            have q1 := cellThru hb hltk tk1
            have q2 := cellThru hb hltk tk2
            have q3 := frozenThru hb hltk fk1
            have q4 := frozenThru hb hltk fk2
            have hltr := Nat.lt_of_lt_of_le hltk hb.size
            have hlt5 : wk.heap.size < wr.heap.size := by omega
            have HB := Lib.hid hb
            clear ho6 HW
            go_wp2_with fail
            refine hP.mono ?_
            rintro e w2 ⟨a8, n8, c8, rfl, ho8, hb8⟩
            have r1 := cellThru hb8 hltr q1
            have r2 := cellThru hb8 hltr q2
            have r3 := frozenThru hb8 hltr q3
            have r4 := frozenThru hb8 hltr q4
            have r5 := cellThru hb8 hlt5 m1
            have r6 := cellThru hb8 hlt5 m2
            have r7 := frozenThru hb8 hlt5 fz1
            have r8 := frozenThru hb8 hlt5 fz2
            have hsz8 := hb8.size
            have hlt8 := Nat.lt_of_lt_of_le hltr hsz8
            have hlt58 := Nat.lt_of_lt_of_le hlt5 hsz8
            have hnn : ¬ (w.heap.size = wk.heap.size) := by omega
            have hnn' : ¬ (wk.heap.size = w.heap.size) := by omega
            clear hP q1 q2 q3 q4 m1 m2 fz1 fz2
            go_wp2
            (try simp only [Exit.inBlock, Exit.then])
            refine bodyPost_ret (v := .agg #[.slice a8 n8 c8, .slice a5 q c5]) ?_ rfl ?_
            · rw [results_cell1 rfl]
              go_simp
            · have hou : Out w.heap.size (wk.heap.size + 1) w2 (((w2.setCell ⟨wk.heap.size, 0, none⟩ (.slice a8 n8 c8)).setCell ⟨w.heap.size, 0, none⟩ (.slice a8 n8 c8)).setCell ⟨w.heap.size, 1, none⟩ (.slice a5 q c5)) :=
                ((out_setCell (by simp; omega) (by simp) _).trans (out_setCell (by simp) (by simp; omega) _)).trans (out_setCell (by simp) (by simp; omega) _)
              have hO5 := HO5.out.below hb8
              have hdis : ∀ r ∈ rs, ∀ p q, r.1 = some p → a8 = some q → p.block ≠ q.block := by
                intro r hr p q' hp' hq'
                obtain ⟨i, hi⟩ := List.getElem?_of_mem hr
                obtain ⟨g1, g2, g3, g4, g5, g6⟩ := HO5.out
                have hil := (List.getElem?_eq_some_iff.1 hi).1
                have hpb := (g5 i r _ hi (List.getElem?_eq_getElem (by omega))).2 p hp'
                have := (ho8.lo q' hq').1
                omega
              have hbe : Below w.heap.size w w2 := (hbwk.trans (HB.out.mono (by omega))).trans (hb8.mono (by omega))
              rw [HE1.out, HE2.out, HSd.out]
              refine ⟨_, _, _, _, _, _, rfl, ⟨rs, (hO5.out hou (.inr (by omega))).mono (by omega) (by simp; omega), (OwnIn.out (ho8.ins.mono (show wk.heap.size + 1 ≤ wr.heap.size from hsz) (Nat.le_refl _)) hou (.inr (by omega))).mono (by omega) (by simp), hdis⟩, ((hbe.setCell (by simp; omega) _).setCell (by simp) _).setCell (by simp) _⟩
end Go.Proofs.Ytjhlianledgiiaa
