/- Inflation of a permutation, in plain lists; the program's inflate. Conditions: the sizes. -/
import Derived.Test.YtmojniiimondfaaF33
namespace Go.Proofs.Ytmojniiimondfaa
open Go.RowKit

/-- The lengths of the parts below v, of the first i. -/
def bsT (P : List Int) (L : List (List Int)) (v : Int) : Nat → Nat
  | 0 => 0
  | i + 1 => bsT P L v i + (if P.getD i 0 < v then (L.getD i []).length else 0)
/-- The first k parts, each raised. -/
def infK (P : List Int) (L : List (List Int)) : Nat → List Int
  | 0 => []
  | k + 1 => infK P L k ++ raise (L.getD k []) (bsT P L (P.getD k 0) P.length : Int)
theorem length_infK (P : List Int) (L : List (List Int)) (k : Nat) (hk : k ≤ L.length) : (infK P L k).length = totL (L.take k) := by
  induction k with
  | zero => simp [infK, totL]
  | succ k ih =>
    have h : L[k]? = some _ := List.getElem?_eq_getElem (by omega)
    rw [totL_snoc h]
    simp only [infK, List.length_append, length_raise, ih (by omega), getD_of h]
theorem bsT_le (P : List Int) (L : List (List Int)) (v : Int) (i : Nat) (hi : i ≤ L.length) : bsT P L v i ≤ totL (L.take i) := by
  induction i with
  | zero => simp [bsT]
  | succ i ih =>
    have h : L[i]? = some _ := List.getElem?_eq_getElem (by omega)
    rw [totL_snoc h]
    simp only [bsT, getD_of h]
    have := ih (by omega)
    split <;> omega
theorem bsT_succ {P : List Int} {L : List (List Int)} {v : Int} {i : Nat} {x : Int} {r : List Int} (hx : P[i]? = some x) (hr : L[i]? = some r) : bsT P L v (i + 1) = bsT P L v i + (if x < v then r.length else 0) := by
  simp only [bsT, getD_of hx, getD_of hr]
theorem infK_succ {P : List Int} {L : List (List Int)} {k : Nat} {x : Int} {r : List Int} (hx : P[k]? = some x) (hr : L[k]? = some r) : infK P L (k + 1) = infK P L k ++ raise r (bsT P L x P.length : Int) := by
  simp only [infK, getD_of hx, getD_of hr]

set_option maxHeartbeats 1600000 in
theorem inflate_any (a : Option Addr) (n c : Nat) (P : List Int) (b : Option Addr) (m d : Nat) (L : List (List Int)) (w : World) (h : SlI w a n c P) (hL : IIs w b m d L) (hmn : m ≤ n) (hmn' : n ≤ m) (hT : Hid (totL L ≤ 8)) (hS : Hid (∀ r ∈ L, Perm8 r)) :
    Calls Try.prog 79 #[.slice a n c, .slice b m d] w (RetI w (infK P L n)) := by
  have HN : Hid (P.length = n) := h.2.1
  have HM : Hid (L.length = m) := hL.2.1
  have hmb := hL.2.2.1
  have HMN : Hid (m = n) := by show _ = _; omega
  go_enter Try.func79, Try.ntmps79
  go_wp2
  go_loopw [5, 6, 7, 8, 9, 10, 14, 21] (fun v _ _ _ _ _ i _ wr => ∃ (k kk c1 : Nat) (a1 : Option Addr), k ≤ m ∧ kk ≤ 8 ∧ i = .int .i64 k ∧ v = .slice a1 kk c1 ∧ OwnI wr w.heap.size a1 kk c1 (infK P L k) ∧ Below w.heap.size w wr) (fun _ _ _ _ _ _ i _ _ => m - (intOf i).toNat)
  case atStart => exact ⟨0, 0, 0, _, Nat.zero_le _, by omega, rfl, rfl, OwnI.lit0 w, below_alloc _ _⟩
  case round =>
    obtain ⟨k, kk, c1, a1, hk, hkk, rfl, rfl, ho, hb⟩ := hrel
    by_cases hlt : k < m
    · obtain ⟨wo, rfl⟩ : ∃ wo : World, wo = wr := ⟨_, rfl⟩
      obtain ⟨lb, lo', ra, rn, rc, xs, rfl, hx, hr, HX⟩ := (hL.below hb).at hlt
      obtain ⟨ab, ao, y, rfl, hy, HY⟩ := (h.1.below hb).at (i := k) (by rw [HN.out]; omega)
      have HO := Lib.hid ho; clear ho
      have HB := Lib.hid hb; clear hb
      have hkn : k < n := by omega
      have hszb := HB.out.size
      go_wp2
      go_loopw [8, 9, 10, 21] (fun bv _ _ i wr => ∃ (j z : Nat), j ≤ m ∧ z ≤ 8 ∧ i = .int .i64 j ∧ bv = .int .i64 z ∧ Hid (z = bsT P L y j) ∧ Quiet wo wr) (fun _ _ _ i _ => m - (intOf i).toNat)
      case atStart => exact ⟨0, 0, Nat.zero_le _, by omega, rfl, rfl, rfl, Quiet.refl _⟩
      case round =>
        obtain ⟨j, z, hj, hz, rfl, rfl, HZ, hq⟩ := hrel
        have hbr := HB.out.trans ((hq.below wo.heap.size).mono hszb)
        by_cases hlj : j < m
        · obtain ⟨lb2, lo2, sa, sn, sc, ys, e1, hx2, hs, HX2⟩ := (hL.below hbr).at hlj
          simp only [Option.some.injEq, Addr.mk.injEq, and_true] at e1
          obtain ⟨rfl, rfl⟩ := e1
          obtain ⟨u, hu, HU⟩ := (h.1.below hbr).cell (i := j) (by rw [HN.out]; omega)
          obtain ⟨y2, hy2, HY2⟩ := (h.1.below hbr).cell (i := k) (by rw [HN.out]; omega)
          obtain rfl : y2 = y := by have e2 := HY2.out; have e3 := HY.out; rw [e2] at e3; exact Option.some.inj e3
          have hjn : j < n := by omega
          have HSn : Hid (ys.length = sn) := hs.2.1
          have hsn : sn ≤ 8 := by have h1 := le_totL (List.mem_of_getElem? HX2.out); have h2 := hT.out; have h3 := HSn.out; omega
          have hle := bsT_le P L y2 (j + 1) (by rw [HM.out]; omega)
          have hle2 := totL_take_le L (j + 1)
          have hT8 := hT.out
          rw [bsT_succ HU.out HX2.out, ← HZ.out, HSn.out] at hle
          clear hs
          by_cases hlt2 : u < y2
          · rw [if_pos hlt2] at hle
            have HZ' : Hid (z + sn = bsT P L y2 (j + 1)) := by show _ = _; rw [bsT_succ HU.out HX2.out, if_pos hlt2, ← HZ.out, HSn.out]
            have hz8 : z + sn ≤ 8 := by omega
            clear hle hle2 hT8
            go_wp2
            go_quiet (fail)
            go_wp2
            go_roundw
            case rel => exact ⟨j + 1, z + sn, by omega, hz8, by go_num, by go_num, HZ', hq.drewN _⟩
            case measure => simp [intOf]; omega
          · have HZ' : Hid (z = bsT P L y2 (j + 1)) := by show _ = _; rw [bsT_succ HU.out HX2.out, if_neg hlt2, ← HZ.out]; omega
            clear hle hle2 hT8
            go_wp2
            go_quiet (fail)
            go_wp2
            go_roundw
            case rel => exact ⟨j + 1, z, by omega, hz, by go_num, rfl, HZ', hq.drewN _⟩
            case measure => simp [intOf]; omega
        · have hjm : j = m := by omega
          subst hjm
          have hxP : Hid (Perm8 xs) := hS.out xs (List.mem_of_getElem? HX.out)
          have hsz2 : wr.heap.size = wo.heap.size := by obtain ⟨q, rfl⟩ := hq; rfl
          have HLn : Hid (xs.length = rn) := hr.2.1
          have hrnb := hr.2.2.1
          have hR := raised_any ra rn rc xs (z : Int) wr (hr.quiet hq) hxP.out.sm (by omega) (by omega)
          have ho1 := HO.out.quiet hq
          have HE : Hid (infK P L (k + 1) = infK P L k ++ raise xs (z : Int)) := by
            show _ = _; rw [infK_succ HY.out HX.out, HN.out, ← HMN.out, HZ.out]
          have htot : Hid (kk + rn ≤ 8) := by
            have h1 := length_infK P L (k + 1) (by rw [HM.out]; omega)
            have h2 := totL_take_le L (k + 1)
            have h3 := hT.out
            have h4 := ho1.1
            rw [HE.out, List.length_append, length_raise, HLn.out] at h1
            show _ ≤ _
            omega
          clear hr
          go_wp2_with fail
          refine hR.mono ?_
          rintro e w3 ⟨a3, n3, c3, rfl, ho3, hb3⟩
          have hn3 : n3 ≤ rn := by have h1 := ho3.1; have h2 := HLn.out; rw [length_raise] at h1; omega
          have hn3' : rn ≤ n3 := by have h1 := ho3.1; have h2 := HLn.out; rw [length_raise] at h1; omega
          have hkr := htot.out
          have hb03 := hbr.trans (hb3.mono (by omega))
          clear hR
          go_wp2_with (at_builtin; refine wpList_append_any rfl _ _ rfl w.heap.size _ _ _ _ rfl (ho1.below hb3) a3 n3 c3 _ rfl (ho3.sl (by omega)) (by omega) hb03.size ?_)
          intro a' c' w' g1 _ g3
          have hbb := hb03.trans g3
          rw [← HE.out] at g1
          clear ho1 ho3 hb3
          go_wp2
          go_roundw
          case rel => exact ⟨k + 1, kk + n3, c', a', by omega, by omega, by go_num, rfl, g1, hbb⟩
          case measure => simp [intOf]; omega
    · have hkm : k = m := by omega
      have e : infK P L k = infK P L n := by rw [hkm, HMN.out]
      rw [e] at ho
      clear e
      go_wp2
      go_ret
      exact ⟨_, _, _, rfl, ho, hb⟩
end Go.Proofs.Ytmojniiimondfaa
