/- SkewParts: the walks of the program's and the reference's functions. No condition. -/
import Derived.Test.YtmojniiimondfaaF23
import Derived.Test.YtmojniiimondfaaApp
namespace Go.Proofs.Ytmojniiimondfaa
open Go.RowKit

set_option maxHeartbeats 1600000 in
theorem skewParts_any (a : Option Addr) (n c : Nat) (xs : List Int) (w : World) (h : SlI w a n c xs) (hp : Hid (Perm8 xs)) :
    Calls Try.prog 85 #[.slice a n c] w (RetII w (skewPs xs)) := by
  have HN : Hid (xs.length = n) := h.2.1
  have h8 : n ≤ 8 := by have := hp.out.1; have := HN.out; omega
  have HC : Hid (Perm8 (compl xs)) := perm8_compl hp.out
  have HS8 : Hid ((sumPs (compl xs)).length ≤ 8) := length_sumPs HC.out
  have HR : Hid (∀ r ∈ sumPs (compl xs), IsPermL r ∧ r.length ≤ 8) := rows_sumPs HC.out
  have hK := complement_any a n c xs w h hp.out.2.upto
  go_enter Try.func85, Try.ntmps85
  go_wp2_with fail
  refine hK.mono ?_
  rintro e w1 ⟨a1, n1, c1, rfl, ho1, hb1⟩
  have hn1 : n1 ≤ 8 := by have h1 := ho1.1; have h2 := HN.out; rw [length_compl] at h1; omega
  clear hK
  go_wp2_with fail
  refine (sumParts_any a1 n1 c1 _ _ (ho1.sl (by omega)) HC).mono ?_
  rintro e w2 ⟨a2, n2, c2, rfl, ho2, hb2⟩
  have hb12 := hb1.trans (hb2.mono hb1.size)
  have hsz1 := hb1.size
  have HL2 : Hid ((sumPs (compl xs)).length = n2) := ho2.len
  have hn2 : n2 ≤ 8 := by have h1 := HL2.out; have h2 := HS8.out; omega
  clear ho1 hb1 hb2
  go_wp2
  go_loopw [4, 5, 11] (fun _ _ i wr => ∃ (k hi : Nat), k ≤ n2 ∧ i = .int .i64 k ∧ hi ≤ wr.heap.size ∧ w.heap.size ≤ hi ∧ OwnII wr w.heap.size hi a2 n2 c2 (((sumPs (compl xs)).map compl).take k ++ (sumPs (compl xs)).drop k) ∧ Below w.heap.size w wr) (fun _ _ i _ => n2 - (intOf i).toNat)
  case atStart => exact ⟨0, w2.heap.size, Nat.zero_le _, rfl, Nat.le_refl _, hb12.size, by simpa using ho2.mono hsz1 (Nat.le_refl _), hb12⟩
  case round =>
    obtain ⟨k, hi, hk, rfl, hhi, hlo, ho, hb⟩ := hrel
    by_cases hlt : k < n2
    · obtain ⟨g, ra, rn, rc, ys, rfl, hc, hrow, HX, _⟩ := ho.row hlt
      have HX' : Hid ((sumPs (compl xs))[k]? = some ys) := by
        show _ = _
        have h1 := HX.out
        rw [List.getElem?_append_right (by rw [List.length_take, List.length_map, HL2.out]; omega), List.length_take, List.length_map, HL2.out, Nat.min_eq_left hk, Nat.sub_self, List.getElem?_drop] at h1
        simpa using h1
      have hmem := HR.out ys (List.mem_of_getElem? HX'.out)
      have hrn : rn ≤ 8 := by have h1 := hrow.1.1; have h2 := hmem.2; omega
      have hK := complement_any ra rn rc ys wr (hrow.sl (by omega)) hmem.1.upto
      clear hmem hrow
      have Ho := Lib.hid ho; clear ho
      have Hb := Lib.hid hb; clear hb
      have HM : Hid (((sumPs (compl xs)).map compl)[k]? = some (compl ys)) := by show _ = _; rw [List.getElem?_map, HX'.out]; rfl
      go_wp2_with fail
      refine hK.mono ?_
      rintro e w3 ⟨a3, n3, c3, rfl, ho3, hb3⟩
      have hsz3 := hb3.size
      obtain ⟨p1, p2, p3, hfz, p5⟩ := (Ho.out.below hb3).put hlt ho3.ins hhi hlo (by omega)
      have hbb : Below w.heap.size w (w3.setCell ⟨g, k, none⟩ (.slice a3 n3 c3)) := (Hb.out.trans (hb3.mono Hb.out.size)).trans (grownBy_below p2 (by have := Hb.out.size; omega) (fun q hq => by cases hq; omega))
      have hc3 := (hb3.cell (p := ⟨g, k, none⟩) (World.block_lt_of_cell? wr _ hc)).trans hc
      clear hK hc ho3 hb3 p2
      go_wp2
      go_roundw
      case rel =>
        refine ⟨k + 1, w3.heap.size, by omega, by go_num, by rw [p5]; exact Nat.le_refl _, by omega, ?_, hbb⟩
        rw [← set_take_drop (by rw [HL2.out]; exact hlt) HM.out (by rw [List.length_map, HL2.out]; exact hk)]
        exact p1
      case measure => simp [intOf]; omega
    · have hkn : k = n2 := by omega
      subst hkn
      have e : ((sumPs (compl xs)).map compl).take k ++ (sumPs (compl xs)).drop k = skewPs xs := by
        rw [List.take_of_length_le (by rw [List.length_map, HL2.out]; exact Nat.le_refl _), List.drop_eq_nil_of_le (by rw [HL2.out]; exact Nat.le_refl _), List.append_nil]; rfl
      rw [e] at ho
      go_wp2
      go_ret
      exact ⟨_, _, _, rfl, ho.mono (Nat.le_refl _) hhi, hb⟩

set_option maxHeartbeats 400000 in
theorem impl_SkewParts (a : Option Addr) (n c : Nat) (xs : List Int) (w : World) (h : SlI w a n c xs) :
    Calls Try.prog 39 #[.slice a n c] w (RetII w (skewPsP xs)) := by
  have hI := impl_IsPerm a n c xs w h
  by_cases hp : Perm8 xs
  · rw [decide_eq_true hp] at hI
    have HP : Hid (Perm8 xs) := hp
    have e : skewPsP xs = skewPs xs := if_pos hp
    rw [e]; clear e hp
    go_enter Try.func39, Try.ntmps39
    go_wp2_with fail
    refine hI.mono ?_
    rintro e w1 ⟨rfl, hb1⟩
    go_wp2_with fail
    refine (skewParts_any a n c xs _ (h.below hb1) HP).mono ?_
    rintro e w2 ⟨a1, n1, c1, rfl, ho1, hb2⟩
    go_wp2
    go_ret
    exact ⟨_, _, _, rfl, ho1.mono hb1.size (Nat.le_refl _), hb1.trans (hb2.mono hb1.size)⟩
  · rw [decide_eq_false hp] at hI
    have e : skewPsP xs = [] := if_neg hp
    rw [e]; clear e hp
    go_enter Try.func39, Try.ntmps39
    go_wp2_with fail
    refine hI.mono ?_
    rintro e w1 ⟨rfl, hb1⟩
    go_wp2
    go_ret
    exact ⟨_, _, _, rfl, OwnII.nil _ _ _, hb1⟩

set_option maxHeartbeats 1600000 in
theorem spec_SkewParts (a : Option Addr) (n c : Nat) (xs : List Int) (w : World) (h : SlI w a n c xs) :
    Calls Try.prog 50 #[.slice a n c] w (RetII w (skewPsP xs)) := by
  have hI := spec_IsPerm a n c xs _ (h.below (below_alloc w (.cells #[] 28)))
  by_cases hp : Perm8 xs
  · rw [decide_eq_true hp] at hI
    have HN : Hid (xs.length = n) := h.2.1
    have h8 : n ≤ 8 := by have := hp.1; have := HN.out; omega
    have HC : Hid (Perm8 (compl xs)) := perm8_compl hp
    have HU : Hid (Upto xs.length xs) := hp.2.upto
    have HS8 : Hid ((sumPs (compl xs)).length ≤ 8) := length_sumPs HC.out
    have HR : Hid (∀ r ∈ sumPs (compl xs), IsPermL r ∧ r.length ≤ 8) := rows_sumPs HC.out
    have HSP : Hid (sumPsP (compl xs) = sumPs (compl xs)) := if_pos HC.out
    have e : skewPsP xs = (sumPs (compl xs)).map compl := by unfold skewPsP; rw [if_pos hp]; rfl
    rw [e]; clear e hp
    go_enter Try.func50, Try.ntmps50
    go_wp2_with fail
    refine hI.mono ?_
    rintro e wz ⟨rfl, hbz⟩
    have hb0 : Below w.heap.size w wz := (below_alloc w _).trans (hbz.mono (by simp))
    have ho0 := ((OwnII.start w).below hbz).mono (Nat.le_refl _) hbz.size
    have hsz0 := hb0.size
    clear hI
    have hK := l3Complement_any a n c xs wz (h.below hb0) HU
    go_wp2_with fail
    refine hK.mono ?_
    rintro e w1 ⟨a1, n1, c1, rfl, ho1, hb1⟩
    have hn1 : n1 ≤ 8 := by have h1 := ho1.1; have h2 := HN.out; rw [length_compl] at h1; omega
    clear hK
    have hS := spec_SumParts a1 n1 c1 _ _ (ho1.sl (by omega))
    rw [HSP.out] at hS
    go_wp2_with fail
    refine hS.mono ?_
    rintro e w2 ⟨a2, n2, c2, rfl, ho2, hb2⟩
    have HL2 : Hid ((sumPs (compl xs)).length = n2) := ho2.len
    have hn2 : n2 ≤ 8 := by have h1 := HL2.out; have h2 := HS8.out; omega
    obtain ⟨L, hL⟩ : ∃ L, L = w1.heap.size := ⟨_, rfl⟩
    obtain ⟨U, hU⟩ : ∃ U, U = w2.heap.size := ⟨_, rfl⟩
    have hLw : w.heap.size < L := by have h1 := hb1.size; have h2 := hbz.size; simp at h2; omega
    have hUw : U ≤ w2.heap.size := by omega
    have HO2 : Hid (OwnII w2 L U a2 n2 c2 (sumPs (compl xs))) := by rw [hL, hU]; exact ho2
    clear hL hU
    have hb12 := hb1.trans (hb2.mono hb1.size)
    have hb02 := hb0.trans (hb12.mono hsz0)
    have ho02 := (ho0.below hb12).mono (Nat.le_refl _) hb12.size
    clear ho1 hb1 hb2 hS ho2 ho0 hb12 hb0
    go_wp2
    go_loopw [3, 5] (fun v i wr => ∃ (k kk c1 : Nat) (a1 : Option Addr), k ≤ n2 ∧ kk ≤ k ∧ i = .int .i64 k ∧ v = .slice a1 kk c1 ∧ OwnII wr w.heap.size wr.heap.size a1 kk c1 (((sumPs (compl xs)).map compl).take k) ∧ Below w.heap.size w wr ∧ Hid (OwnII wr L U a2 n2 c2 (sumPs (compl xs))) ∧ Hid (∀ p, a1 = some p → p.block < L ∨ U ≤ p.block) ∧ U ≤ wr.heap.size) (fun _ i _ => n2 - (intOf i).toNat)
    case atStart => exact ⟨0, 0, 0, _, Nat.zero_le _, Nat.le_refl _, rfl, rfl, by simpa using ho02, hb02, HO2, fun p hp => by cases hp; exact .inl hLw, hUw⟩
    case round =>
      obtain ⟨k, kk, c3, a3, hk, hkk, rfl, rfl, ho, hb, HO, HA, hU⟩ := hrel
      by_cases hlt : k < n2
      · obtain ⟨ab, ao, ra, rn, rc, ys, rfl, hx, hr, HX⟩ := (HO.out.iis (by omega) fun r hr => by have := (HR.out r hr).2; omega).at hlt
        have hmem := HR.out ys (List.mem_of_getElem? HX.out)
        have hK := l3Complement_any ra rn rc ys wr hr hmem.1.upto
        have HM : Hid (((sumPs (compl xs)).map compl)[k]? = some (compl ys)) := by show _ = _; rw [List.getElem?_map, HX.out]; rfl
        clear hmem hr
        go_wp2_with fail
        refine hK.mono ?_
        rintro e w3 ⟨a4, n4, c4, rfl, ho4, hb4⟩
        have ho1 := ho.below hb4
        have hsz := hb4.size
        have hszw := hb.size
        have HO1 : Hid (OwnII w3 L U (some ⟨ab, ao, none⟩) n2 c2 (sumPs (compl xs))) := HO.out.below hb4
        have hbb := hb.trans (hb4.mono hb.size)
        clear hK
        go_wp2_with (at_builtin; refine wpList_appIIx rfl _ _ rfl w.heap.size _ wr.heap.size _ _ _ _ rfl ho1 _ _ _ _ ho4.ins (.inl (Nat.le_refl _)) hb.size _ rfl rfl (by omega) (by omega) (by omega) ?_)
        intro a' c' w4 g1 g2 _ g5 g6 g7
        have HO4 : Hid (OwnII w4 L U (some ⟨ab, ao, none⟩) n2 c2 (sumPs (compl xs))) := HO1.out.grownOut g6 fun k hk => by
          obtain ⟨p, hp1, hp2⟩ := ownBlock_some hk
          have := HA.out p hp1
          omega
        have HA4 : Hid (∀ p, a' = some p → p.block < L ∨ U ≤ p.block) := fun p hp => by
          rcases g7 p hp with h1 | h1
          · exact HA.out p h1
          · right; omega
        have hbb4 := hbb.trans g2
        clear g6 g7 ho1 ho4 hb4 g2
        rw [← take_snoc HM.out] at g1
        go_wp2
        go_roundw
        case rel => exact ⟨k + 1, kk + 1, c', a', by omega, by omega, by go_num, rfl, g1, hbb4, HO4, HA4, by omega⟩
        case measure => simp [intOf]; omega
      · have hkn : k = n2 := by omega
        subst hkn
        rw [List.take_of_length_le (by rw [List.length_map, HL2.out]; exact Nat.le_refl _)] at ho
        go_wp2
        go_ret
        exact ⟨_, _, _, rfl, ho, hb⟩
  · rw [decide_eq_false hp] at hI
    have e : skewPsP xs = [] := if_neg hp
    rw [e]; clear e hp
    go_enter Try.func50, Try.ntmps50
    go_wp2_with fail
    refine hI.mono ?_
    rintro e w1 ⟨rfl, hb1⟩
    go_wp2
    go_ret
    exact ⟨_, _, _, rfl, ((OwnII.start w).below hb1).mono (Nat.le_refl _) hb1.size, (below_alloc w _).trans (hb1.mono (by simp))⟩
end Go.Proofs.Ytmojniiimondfaa
