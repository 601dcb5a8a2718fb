/- InflateBy: the walk of the reference's function. No condition but on the sizes. -/
import Derived.Test.YtmojniiimondfaaF36
namespace Go.Proofs.Ytmojniiimondfaa
open Go.RowKit

set_option maxHeartbeats 3000000 in
theorem spec_InflateBy (a : Option Addr) (n c : Nat) (P : List Int) (b : Option Addr) (m d : Nat) (L : List (List Int)) (w : World) (h : SlI w a n c P) (hL : IIs w b m d L) :
    Calls Try.prog 26 #[.slice a n c, .slice b m d] w (RetIB w (infP P L) (decide (IOk P L))) := by
  have HN : Hid (P.length = n) := h.2.1
  have HM : Hid (L.length = m) := hL.2.1
  have hmb := hL.2.2.1
  have hnb := h.2.2.1
  obtain ⟨R, hR⟩ : ∃ R, R = infP P L := ⟨_, rfl⟩
  obtain ⟨D, hD⟩ : ∃ D, D = decide (IOk P L) := ⟨_, rfl⟩
  rw [← hR, ← hD]
  have HG : Hid (IOk P L → R = infK P L n ∧ D = true) := fun hj => by rw [hR, hD]; unfold infP; rw [HN.out]; exact ⟨if_pos hj, decide_eq_true hj⟩
  have HB : Hid (¬ IOk P L → R = [] ∧ D = false) := fun hj => by rw [hR, hD]; unfold infP; exact ⟨if_neg hj, decide_eq_false hj⟩
  clear hR hD
  have hI := spec_IsPerm a n c P w h
  by_cases hp : Perm8 P
  · rw [decide_eq_true hp] at hI
    have HP : Hid (Perm8 P) := hp
    have hn8 : n ≤ 8 := by have h1 := hp.1; have h2 := h.2.1; omega
    clear hp
    by_cases hmn : m = n
    · have hmn' : ((m : Int) != (n : Int)) = false := by rw [bne_eq_false_iff_eq]; omega
      have HMN : Hid (m = n) := hmn
      have hm8 : m ≤ 8 := by omega
      have hmn1 : m ≤ n := by omega
      have hmn2 : n ≤ m := by omega
      clear hmn
      by_cases hall : ∀ r ∈ L, Perm8 r
      · have HALL : Hid (∀ r ∈ L, Perm8 r) := hall
        have HD1 : Hid (decide (∀ r ∈ L, Perm8 r) = true) := decide_eq_true hall
        clear hall
        go_enter Try.func26, Try.ntmps26
        go_wp2_with fail
        refine hI.mono ?_
        rintro e w0 ⟨rfl, hb0⟩
        have hA := l3All_any b m d L w0 (hL.below hb0)
        rw [HD1.out] at hA
        clear hI
        go_wp2_with fail
        refine hA.mono ?_
        rintro e w1 ⟨rfl, hb1⟩
        have hbw := hb0.trans (hb1.mono hb0.size)
        have hszw := hbw.size
        have hL1 := hL.below hbw
        have h1' := h.below hbw
        clear hA hb0 hb1
        go_wp2
        go_loop [6, 7] (fun tv i => ∃ (k z : Nat), k ≤ m ∧ z ≤ 8 ∧ i = .int .i64 k ∧ tv = .int .i64 z ∧ Hid (totL (L.take k) = z) ∧ Hid (∀ r ∈ L.take k, 0 < r.length)) (fun _ i => m - (intOf i).toNat)
        case atStart => exact ⟨0, 0, Nat.zero_le _, by omega, rfl, rfl, by show _ = _; simp [totL], by show ∀ r ∈ _, _; simp⟩
        case round =>
          obtain ⟨k, z, hk, hz, rfl, rfl, HZ, HA⟩ := hrel
          by_cases hlt : k < m
          · obtain ⟨ab, ao, ra, rn, rc, xs, rfl, hx, hr, HX⟩ := hL1.at hlt
            have HLn : Hid (xs.length = rn) := hr.2.1
            have hrnb := hr.2.2.1
            clear hr
            have HZ' : Hid (totL (L.take (k + 1)) = z + rn) := by show _ = _; rw [totL_snoc HX.out, HZ.out, HLn.out]
            by_cases hr0 : rn = 0
            · have hr0' : ((rn : Int) == 0) = true := by rw [beq_iff_eq]; omega
              have HNJ : Hid (¬ IOk P L) := fun hj => by
                have h1 := hj.2.2.2.1 xs (List.mem_of_getElem? HX.out)
                rw [HLn.out] at h1; omega
              clear hr0
              obtain ⟨e1, e2⟩ := HB.out HNJ.out
              subst e1 e2
              go_wp2
              go_ret2
              exact ⟨_, _, _, rfl, (OwnI.lit0 w1).mono hszw, hbw.alloc hszw _⟩
            · have hr0' : ((rn : Int) == 0) = false := by rw [beq_eq_false_iff_ne]; omega
              have hrpos : 0 < rn := by omega
              clear hr0
              by_cases hbig : 8 < z + rn
              · have HNJ : Hid (¬ IOk P L) := fun hj => by
                  have h1 := hj.2.2.2.2
                  have h2 := totL_take_le L (k + 1)
                  rw [HZ'.out] at h2; omega
                obtain ⟨e1, e2⟩ := HB.out HNJ.out
                subst e1 e2
                go_wp2
                go_ret2
                exact ⟨_, _, _, rfl, (OwnI.lit0 w1).mono hszw, hbw.alloc hszw _⟩
              · have HA' : Hid (∀ r ∈ L.take (k + 1), 0 < r.length) := by
                  show ∀ r ∈ _, _
                  intro r hr'
                  rw [take_snoc HX.out] at hr'
                  rcases List.mem_append.1 hr' with h1 | h1
                  · exact HA.out r h1
                  · simp at h1; rw [h1, HLn.out]; exact hrpos
                go_wp2
                go_round
                case rel => exact ⟨k + 1, z + rn, by omega, by omega, by go_num, by go_num, HZ', HA'⟩
                case measure => simp [intOf]; omega
          · have hkm : k = m := by omega
            subst hkm
            have HTz : Hid (totL L = z) := by
              have h1 := HZ.out
              rwa [List.take_of_length_le (by rw [HM.out]; exact Nat.le_refl _)] at h1
            have HPos : Hid (∀ r ∈ L, 0 < r.length) := by
              have h1 := HA.out
              rwa [List.take_of_length_le (by rw [HM.out]; exact Nat.le_refl _)] at h1
            have HJ : Hid (IOk P L) := ⟨HP.out, by rw [HM.out, HN.out, HMN.out], HALL.out, HPos.out, by rw [HTz.out]; exact hz⟩
            have HT : Hid (totL L ≤ 8) := HJ.out.2.2.2.2
            obtain ⟨e1, e2⟩ := HG.out HJ.out
            subst e1 e2
            go_wp2
            go_loopw [8, 9, 10, 11, 12] (fun v i _ _ _ wr => ∃ (k2 kk c1 : Nat) (a1 : Option Addr), k2 ≤ n ∧ kk ≤ 8 ∧ i = .int .i64 k2 ∧ v = .slice a1 kk c1 ∧ OwnI wr w.heap.size a1 kk c1 (infK P L k2) ∧ Below w.heap.size w wr) (fun _ i _ _ _ _ => n - (intOf i).toNat)
            case atStart => exact ⟨0, 0, 0, _, Nat.zero_le _, by omega, rfl, rfl, (OwnI.lit0 w1).mono hszw, hbw.alloc hszw _⟩
            case round =>
              obtain ⟨k2, kk, c1, a1, hk2, hkk, rfl, rfl, ho, hb⟩ := hrel
              by_cases hlt2 : k2 < n
              · obtain ⟨wo, rfl⟩ : ∃ wo : World, wo = wr := ⟨_, rfl⟩
                obtain ⟨lb, lo', ra, rn, rc, xs, rfl, hx, hr, HX⟩ := (hL.below hb).at (i := k2) (by omega)
                obtain ⟨ab, ao, y, rfl, hy, HY⟩ := (h.1.below hb).at (i := k2) (by rw [HN.out]; omega)
                have HO := Lib.hid ho; clear ho
                have HBl := Lib.hid hb; clear hb
                have hk2m : k2 < k := by omega
                have hszb := HBl.out.size
                have HLn : Hid (xs.length = rn) := hr.2.1
                have HSl : Hid (SlI wo ra rn rc xs) := hr
                have hrnb := hr.2.2.1
                clear hr
                go_wp2
                go_loopw [10, 11] (fun bv i wr => ∃ (j z : Nat), j ≤ n ∧ z ≤ 8 ∧ i = .int .i64 j ∧ bv = .int .i64 z ∧ Hid (z = bsT P L y j) ∧ Quiet wo wr) (fun _ i _ => n - (intOf i).toNat)
                case atStart => exact ⟨0, 0, Nat.zero_le _, by omega, rfl, rfl, rfl, Quiet.refl _⟩
                case round =>
                  obtain ⟨j, z, hj, hz, rfl, rfl, HZ3, hq⟩ := hrel
                  have hbr := HBl.out.trans ((hq.below wo.heap.size).mono hszb)
                  by_cases hlj : j < n
                  · obtain ⟨lb2, lo2, sa, sn, sc, ys, e1, hx2, hs, HX2⟩ := (hL.below hbr).at (i := j) (by omega)
                    simp only [Option.some.injEq, Addr.mk.injEq, and_true] at e1
                    obtain ⟨rfl, rfl⟩ := e1
                    obtain ⟨u, hu, HU⟩ := (h.1.below hbr).cell (i := j) (by rw [HN.out]; omega)
                    obtain ⟨y2, hy2, HY2⟩ := (h.1.below hbr).cell (i := k2) (by rw [HN.out]; omega)
                    obtain rfl : y2 = y := by have e2 := HY2.out; have e3 := HY.out; rw [e2] at e3; exact Option.some.inj e3
                    have hjk : j < k := by omega
                    have HSn : Hid (ys.length = sn) := hs.2.1
                    have hsn : sn ≤ 8 := by have h1 := le_totL (List.mem_of_getElem? HX2.out); have h2 := HT.out; have h3 := HSn.out; omega
                    have hle := bsT_le P L y2 (j + 1) (by rw [HM.out]; omega)
                    have hle2 := totL_take_le L (j + 1)
                    have hT8 := HT.out
                    rw [bsT_succ HU.out HX2.out, ← HZ3.out, HSn.out] at hle
                    clear hs
                    by_cases hlt3 : u < y2
                    · rw [if_pos hlt3] at hle
                      have HZ' : Hid (z + sn = bsT P L y2 (j + 1)) := by show _ = _; rw [bsT_succ HU.out HX2.out, if_pos hlt3, ← HZ3.out, HSn.out]
                      have hz8 : z + sn ≤ 8 := by omega
                      clear hle hle2 hT8
                      go_wp2
                      go_quiet ((go_at_call 68; exact Calls.quiet_of_same (l1Bit_any _ _)))
                      go_wp2
                      go_roundw
                      case rel => exact ⟨j + 1, z + sn, by omega, hz8, by go_num, by go_num, HZ', hq.drewN _⟩
                      case measure => simp [intOf]; omega
                    · have HZ' : Hid (z = bsT P L y2 (j + 1)) := by show _ = _; rw [bsT_succ HU.out HX2.out, if_neg hlt3, ← HZ3.out]; omega
                      clear hle hle2 hT8
                      go_wp2
                      go_quiet ((go_at_call 68; exact Calls.quiet_of_same (l1Bit_any _ _)))
                      go_wp2
                      go_roundw
                      case rel => exact ⟨j + 1, z, by omega, hz, by go_num, by go_num, HZ', hq.drewN _⟩
                      case measure => simp [intOf]; omega
                  · have hjm : j = n := by omega
                    subst hjm
                    have hxP : Hid (Perm8 xs) := HALL.out xs (List.mem_of_getElem? HX.out)
                    have HE : Hid (infK P L (k2 + 1) = infK P L k2 ++ raise xs (z : Int)) := by
                      show _ = _; rw [infK_succ HY.out HX.out, HN.out, HZ3.out]
                    have htot : Hid (kk + rn ≤ 8) := by
                      have h1 := length_infK P L (k2 + 1) (by rw [HM.out]; omega)
                      have h2 := totL_take_le L (k2 + 1)
                      have h3 := HT.out
                      have h4 := HO.out.1
                      rw [HE.out, List.length_append, length_raise, HLn.out] at h1
                      show _ ≤ _
                      omega
                    have hkr := htot.out
                    have ho1 := HO.out.quiet hq
                    have hsz2 : wr.heap.size = wo.heap.size := by obtain ⟨q, rfl⟩ := hq; rfl
                    have HQ1 : Hid (Quiet wo wr) := hq
                    have hx3 : wr.cell? ⟨lb, lo' + k2, none⟩ = some (.slice ra rn rc) := ((hq.below wo.heap.size).cell (p := ⟨lb, lo' + k2, none⟩) (World.block_lt_of_cell? wo _ hx)).trans hx
                    clear hq
                    obtain ⟨wq, rfl⟩ : ∃ wq : World, wq = wr := ⟨_, rfl⟩
                    have HXC := Lib.hid hx3; clear hx3
                    go_wp2
                    go_loopw [8, 12] (fun v i wr => ∃ (t c2 : Nat) (a2 : Option Addr), t ≤ rn ∧ i = .int .i64 t ∧ v = .slice a2 (kk + t) c2 ∧ OwnI wr w.heap.size a2 (kk + t) c2 (infK P L k2 ++ (raise xs (z : Int)).take t) ∧ Below w.heap.size w wr) (fun _ i _ => rn - (intOf i).toNat)
                    case atStart => exact ⟨0, c1, a1, Nat.zero_le _, rfl, rfl, by simpa using ho1, hbr⟩
                    case round =>
                      obtain ⟨t, c2, a2, ht, rfl, rfl, ho2, hb2⟩ := hrel
                      obtain ⟨lb3, lo3, sa3, sn3, sc3, xs3, e3, hx4, hr4, HX4⟩ := (hL.below hb2).at (i := k2) (by omega)
                      simp only [Option.some.injEq, Addr.mk.injEq, and_true] at e3
                      obtain ⟨rfl, rfl⟩ := e3
                      have h6 : xs = xs3 := by have e4 := HX4.out; have e5 := HX.out; rw [e4] at e5; exact (Option.some.inj e5).symm
                      subst h6
                      have h5 : rn = sn3 := by rw [← HLn.out, hr4.2.1]
                      subst h5
                      by_cases hlt4 : t < rn
                      · obtain ⟨eb, eo, x, rfl, hx5, HX5⟩ := hr4.1.at (i := t) (by rw [HLn.out]; exact hlt4)
                        have hxb := hxP.out.2.1 x (List.mem_of_getElem? HX5.out)
                        have hx8 := hxP.out.1
                        obtain ⟨hxb1, hxb2⟩ := hxb
                        have hxb3 : x ≤ 8 := by omega
                        clear hxb2 hx8
                        have E : Hid ((raise xs (z : Int))[t]? = some ((z : Int) + x)) := by
                          show _ = _; unfold raise; rw [List.getElem?_map, HX5.out, Option.map_some, Int.add_comm]
                        clear hr4
                        go_wp2_with (at_builtin; refine wpList_appI rfl _ _ rfl w.heap.size _ _ _ _ rfl ho2 _ rfl (by omega) hb2.size ?_)
                        intro a' c' w' g1 g3
                        have hbb := hb2.trans g3
                        rw [← take_snoc E.out] at g1
                        go_wp2
                        go_roundw
                        case rel => exact ⟨t + 1, c', a', by omega, by go_num, rfl, g1, hbb⟩
                        case measure => simp [intOf]; omega
                      · have htr : t = rn := by omega
                        have HEt : Hid (infK P L (k2 + 1) = infK P L k2 ++ (raise xs (z : Int)).take t) := by
                          show _ = _; rw [HE.out, List.take_of_length_le (by rw [length_raise, HLn.out]; omega)]
                        rw [← HEt.out] at ho2
                        clear hr4
                        go_wp2
                        go_roundw
                        case rel => exact ⟨k2 + 1, kk + t, c2, a2, by omega, by omega, by go_num, rfl, ho2, hb2⟩
                        case measure => simp [intOf]; omega
              · have hkn : k2 = n := by omega
                subst hkn
                go_wp2
                go_ret2
                exact ⟨_, _, _, rfl, ho, hb⟩
      · have HD1 : Hid (decide (∀ r ∈ L, Perm8 r) = false) := decide_eq_false hall
        have HNJ : Hid (¬ IOk P L) := fun hj => hall hj.2.2.1
        clear hall
        obtain ⟨e1, e2⟩ := HB.out HNJ.out
        subst e1 e2
        go_enter Try.func26, Try.ntmps26
        go_wp2_with fail
        refine hI.mono ?_
        rintro e w0 ⟨rfl, hb0⟩
        have hA := l3All_any b m d L w0 (hL.below hb0)
        rw [HD1.out] at hA
        clear hI
        go_wp2_with fail
        refine hA.mono ?_
        rintro e w1 ⟨rfl, hb1⟩
        have hbw := hb0.trans (hb1.mono hb0.size)
        go_wp2
        go_ret2
        exact ⟨_, _, _, rfl, (OwnI.lit0 w1).mono hbw.size, hbw.alloc hbw.size _⟩
    · have hmn' : ((m : Int) != (n : Int)) = true := by rw [bne_iff_ne]; omega
      have HNJ : Hid (¬ IOk P L) := fun hj => hmn (by have h1 := hj.2.1; rw [HM.out, HN.out] at h1; exact h1)
      clear hmn
      obtain ⟨e1, e2⟩ := HB.out HNJ.out
      subst e1 e2
      go_enter Try.func26, Try.ntmps26
      go_wp2_with fail
      refine hI.mono ?_
      rintro e w1 ⟨rfl, hb1⟩
      go_wp2
      go_ret2
      exact ⟨_, _, _, rfl, (OwnI.lit0 w1).mono hb1.size, hb1.alloc hb1.size _⟩
  · rw [decide_eq_false hp] at hI
    have HNJ : Hid (¬ IOk P L) := fun hj => hp hj.1
    clear hp
    obtain ⟨e1, e2⟩ := HB.out HNJ.out
    subst e1 e2
    go_enter Try.func26, Try.ntmps26
    go_wp2_with fail
    refine hI.mono ?_
    rintro e w1 ⟨rfl, hb1⟩
    go_wp2
    go_ret2
    exact ⟨_, _, _, rfl, (OwnI.lit0 w1).mono hb1.size, hb1.alloc hb1.size _⟩
end Go.Proofs.Ytmojniiimondfaa
