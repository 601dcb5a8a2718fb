/- The reference's reading of a number. Condition: at most 2^20 bytes. -/
import Derived.Test.YtmojniiimondfaaDoorN01
import Derived.Laws.Strings
import Derived.Lib.Strings
namespace Go.Proofs.YtmojniiimondfaaDoor
open Go.RowKit

theorem toListN (s : ByteArray) : s.toList = s.data.toList := ByteArray.toList_eq s
theorem sizeN (s : ByteArray) : s.data.toList.length = s.size := by rw [Array.length_toList]; rfl
theorem getN (s : ByteArray) {k : Nat} (h : k < s.size) : s.data.toList[k]? = some s[k] := by
  rw [List.getElem?_eq_getElem (by rw [sizeN]; exact h)]; rfl
/-- What is given back of a number read. -/
def prs (o : Option Int) : Value := .tuple #[.int .i64 (o.getD 0), .bool o.isSome]
theorem digit_of {b : UInt8} (h1 : 48 ≤ (b.toNat : Int)) (h2 : (b.toNat : Int) ≤ 57) : Lib.digitVal b = some (b.toNat - 48) := by
  unfold Lib.digitVal; rw [if_pos ⟨by omega, by omega⟩]
theorem nodigit_of {b : UInt8} (h : (b.toNat : Int) < 48 ∨ 57 < (b.toNat : Int)) : Lib.digitVal b = none := by
  unfold Lib.digitVal; rw [if_neg (fun h2 => by omega)]
theorem decFrom_bad {l : List UInt8} {k : Nat} {b : UInt8} (hk : l[k]? = some b) (hb : Lib.digitVal b = none) : Lib.decFrom 0 l = none := by
  cases h : Lib.decFrom 0 l with
  | none => rfl
  | some n =>
    obtain ⟨d, hd⟩ := Lib.digit_of_decFrom l 0 n h k b hk
    rw [hd] at hb; cases hb
theorem rdL_short {most : Nat} {l : List UInt8} (h : ¬ (1 ≤ (rdT l).length ∧ (rdT l).length ≤ most)) : rdL most l = none := if_neg h
theorem rdL_bad {most : Nat} {l : List UInt8} (h : Lib.decFrom 0 (rdT l) = none) : rdL most l = none := by
  unfold rdL; rw [h]; split <;> rfl
theorem rdL_num {most n : Nat} {l : List UInt8} (h : 1 ≤ (rdT l).length ∧ (rdT l).length ≤ most) (hd : Lib.decFrom 0 (rdT l) = some n) : rdL most l = if Lib.itoa (rdV l n) = l then some (rdV l n) else none := by
  unfold rdL; rw [if_pos h, hd]
theorem wfN {n : Int} (h1 : -1000000000000000000 ≤ n) (h2 : n ≤ 1000000000000000000) : (Lit.int .i64 n).wf = true := by
  have e1 : IntKind.i64.min = -9223372036854775808 := by decide
  have e2 : IntKind.i64.max = 9223372036854775807 := by decide
  simp [Lit.wf]
  omega
theorem decFrom_lt12 {l : List UInt8} {k acc : Nat} (h : Lib.decFrom 0 (l.take k) = some acc) (hk : k ≤ 12) : acc < 1000000000000 := by
  have h1 := Lib.decFrom_lt _ 0 acc h
  have h2 : (l.take k).length ≤ 12 := by rw [List.length_take]; omega
  have h3 := Nat.pow_le_pow_right (n := 10) (by decide) h2
  have e : (10 : Nat) ^ 12 = 1000000000000 := by decide
  omega

set_option maxHeartbeats 1000000 in
theorem l1Read_plain (s : ByteArray) (most : Nat) (w : World) (hm : most ≤ 12) (h0 : 0 < s.size) (hc : ¬ (((s[0]).toNat : Int) = 45)) (hs : s.size ≤ 1048576) :
    Calls Tryd.prog 32 #[.string s, .int .i64 most] w (RetV w (prs (rdL most s.data.toList))) := by
  unfold prs
  have hn : rdNeg s.data.toList = false := by
    unfold rdNeg
    have h1 := getN s h0
    rw [← List.head?_eq_getElem?] at h1
    rw [h1, decide_eq_false]
    intro e
    have h2 := Option.some.inj e
    rw [h2] at hc
    exact hc rfl
  have hT : rdT s.data.toList = s.data.toList := by unfold rdT; rw [hn]; rfl
  have hV : ∀ n : Nat, rdV s.data.toList n = (n : Int) := fun n => by unfold rdV; rw [hn]; rfl
  have hc' : (((s[0]).toNat : Int) == 45) = false := by rw [beq_eq_false_iff_ne]; exact hc
  clear hn

  have HT := Lib.hid hT
  have HV := Lib.hid hV
  obtain ⟨O, hO⟩ : ∃ O, O = rdL most s.data.toList := ⟨_, rfl⟩
  rw [← hO]
  have HO := Lib.hid hO
  clear hT hV hO hc
  by_cases hlm' : ¬ s.size ≤ most
  · have hO : O = none := by rw [HO.out]; exact rdL_short (by rw [HT.out, sizeN]; omega)
    subst hO
    go_enter Tryd.func32, Tryd.ntmps32
    go_wp2
    go_ret2
    exact ⟨rfl, Below.refl _ _⟩
  have hlm : s.size ≤ most := by omega
  clear hlm'
  have hl1 : 1 ≤ s.size := h0
  have hq1 : decide ((s.size : Int) < 1) = false := decide_eq_false (by omega)
  have hq2 : decide (most < s.size) = false := decide_eq_false (by omega)
  go_enter Tryd.func32, Tryd.ntmps32
  go_wp2
  go_loopw [8, 9] (fun nv iv wr => ∃ (k m : Nat), k ≤ s.size ∧ m ≤ 1000000000000 ∧ nv = .int .i64 m ∧ iv = .int .i64 k ∧ Hid (Lib.decFrom 0 (s.data.toList.take k) = some m) ∧ wr = w) (fun _ iv _ => s.size - (intOf iv).toNat)
  case atStart => exact ⟨0, 0, Nat.zero_le _, by omega, rfl, rfl, rfl, rfl⟩
  case round =>
    obtain ⟨k, m, hk, hm1, rfl, rfl, HM, hwr⟩ := hrel
    obtain rfl : w = wr := hwr.symm
    by_cases hlt : k < s.size
    · have HG := Lib.hid (getN s hlt)
      by_cases hd1 : 48 ≤ ((s[k]).toNat : Int)
      · by_cases hd2 : ((s[k]).toNat : Int) ≤ 57
        · have HM2 : Hid (Lib.decFrom 0 (s.data.toList.take (k + 1)) = some (m * 10 + ((s[k]).toNat - 48))) := Lib.decFrom_take _ k 0 m _ _ HM.out HG.out (digit_of hd1 hd2)
          have hm2 := decFrom_lt12 HM2.out (by omega)
          obtain ⟨d, hd⟩ : ∃ d : Nat, d = (s[k]).toNat - 48 := ⟨_, rfl⟩
          rw [← hd] at HM2 hm2
          have hdd : (s[k]).toNat - 48 = d := hd.symm
          have hd9 : d ≤ 9 := by omega
          clear hd
          go_wp2
          go_roundw
          case rel => exact ⟨k + 1, m * 10 + d, by omega, by omega, by go_num, by go_num, HM2, by first | rfl | trivial⟩
          case measure => simp [intOf]; omega
        · have hO : O = none := by rw [HO.out]; exact rdL_bad (by rw [HT.out]; exact decFrom_bad HG.out (nodigit_of (.inr (by omega))))
          subst hO
          go_wp2
          go_ret2
          exact ⟨rfl, Below.refl _ _⟩
      · have hO : O = none := by rw [HO.out]; exact rdL_bad (by rw [HT.out]; exact decFrom_bad HG.out (nodigit_of (.inl (by omega))))
        subst hO
        go_wp2
        go_ret2
        exact ⟨rfl, Below.refl _ _⟩
    · obtain rfl : k = s.size := by omega
      have HD : Hid (Lib.decFrom 0 s.data.toList = some m) := by
        have h1 := HM.out
        rwa [List.take_of_length_le (by rw [sizeN]; exact Nat.le_refl _)] at h1
      have hF := formatInt_any ((m : Int)) w (wfN (by omega) (by omega))
      have hO : O = if Lib.itoa ((m : Int)) = s.data.toList then some ((m : Int)) else none := by
        rw [HO.out, rdL_num (n := m) (by rw [HT.out, sizeN]; omega) (by rw [HT.out]; exact HD.out), HV.out]
      by_cases he : Lib.itoa ((m : Int)) = s.data.toList
      · rw [if_pos he] at hO
        subst hO
        have he' : (Lib.itoa ((m : Int)) == s.toList) = true := by rw [toListN, he]; simp
        generalize Lib.itoa ((m : Int)) = L at he' hF
        clear he
        go_wp2_with fail
        refine hF.mono ?_
        rintro e w1 ⟨rfl, hb1⟩
        go_wp2
        go_ret2
        exact ⟨rfl, hb1⟩
      · rw [if_neg he] at hO
        subst hO
        have he' : (Lib.itoa ((m : Int)) == s.toList) = false := by rw [toListN, beq_eq_false_iff_ne]; exact he
        generalize Lib.itoa ((m : Int)) = L at he' hF
        clear he
        go_wp2_with fail
        refine hF.mono ?_
        rintro e w1 ⟨rfl, hb1⟩
        go_wp2
        go_ret2
        exact ⟨rfl, hb1⟩

set_option maxHeartbeats 1000000 in
theorem l1Read_minus (s : ByteArray) (most : Nat) (w : World) (hm : most ≤ 12) (h0 : 0 < s.size) (hc : ((s[0]).toNat : Int) = 45) (hs : s.size ≤ 1048576) :
    Calls Tryd.prog 32 #[.string s, .int .i64 most] w (RetV w (prs (rdL most s.data.toList))) := by
  unfold prs
  have hl : s.data.toList = 45 :: (s.extract 1 s.size).data.toList := by
    have e2 : (s.extract 1 s.size).data.toList = s.data.toList.drop 1 := by rw [Lib.extract_data, List.take_of_length_le (by rw [List.length_drop, sizeN]; exact Nat.le_refl _)]
    have h1 := getN s h0
    rw [e2]
    cases hd : s.data.toList with
    | nil => rw [hd] at h1; simp at h1
    | cons b r =>
      rw [hd] at h1
      simp only [List.getElem?_cons_zero, Option.some.injEq] at h1
      have h2 : b = 45 := by rw [h1]; apply UInt8.toNat_inj.1; have : (45 : UInt8).toNat = 45 := rfl; omega
      rw [h2]; rfl
  have hT : rdT s.data.toList = (s.extract 1 s.size).data.toList := by rw [hl]; exact (rd_minus _).2.1
  have hV : ∀ n : Nat, rdV s.data.toList n = -(n : Int) := fun n => by rw [hl]; exact (rd_minus _).2.2 n
  have htz : (s.extract 1 s.size).size = s.size - 1 := by rw [ByteArray.size_extract]; omega
  have hc' : (((s[0]).toNat : Int) == 45) = true := by rw [hc]; rfl

  have HT := Lib.hid hT
  have HV := Lib.hid hV
  obtain ⟨O, hO⟩ : ∃ O, O = rdL most s.data.toList := ⟨_, rfl⟩
  rw [← hO]
  have HO := Lib.hid hO
  clear hT hV hO hc
  have HL := Lib.hid hl
  clear hl
  by_cases hbad : s.size - 1 < 1 ∨ most < s.size - 1
  · have hO : O = none := by rw [HO.out]; exact rdL_short (by rw [HT.out, sizeN, htz]; omega)
    subst hO
    have hbad' : ((s.size - 1 : Nat) : Int) < 1 ∨ ((most : Nat) : Int) < ((s.size - 1 : Nat) : Int) := by omega
    rcases hbad' with hb1 | hb1
    all_goals
      rw [← htz] at hb1
      obtain ⟨t, hte⟩ : ∃ t, s.extract 1 s.size = t := ⟨_, rfl⟩
      rw [hte] at hb1
      go_enter Tryd.func32, Tryd.ntmps32
      go_wp2
      go_ret2
      exact ⟨rfl, Below.refl _ _⟩
  have hlm : (s.extract 1 s.size).size ≤ most := by omega
  have hl1 : 1 ≤ (s.extract 1 s.size).size := by omega
  have hq1 : decide (((s.size - 1 : Nat) : Int) < 1) = false := decide_eq_false (by omega)
  have hq2 : decide (most < s.size - 1) = false := decide_eq_false (by omega)
  clear hbad
  obtain ⟨t, hte⟩ : ∃ t, s.extract 1 s.size = t := ⟨_, rfl⟩
  rw [hte] at hlm hl1 htz HT HL
  go_enter Tryd.func32, Tryd.ntmps32
  go_wp2
  clear hte
  go_loopw [8, 9] (fun nv iv wr => ∃ (k m : Nat), k ≤ t.size ∧ m ≤ 1000000000000 ∧ nv = .int .i64 m ∧ iv = .int .i64 k ∧ Hid (Lib.decFrom 0 (t.data.toList.take k) = some m) ∧ wr = w) (fun _ iv _ => t.size - (intOf iv).toNat)
  case atStart => exact ⟨0, 0, Nat.zero_le _, by omega, rfl, rfl, rfl, rfl⟩
  case round =>
    obtain ⟨k, m, hk, hm1, rfl, rfl, HM, hwr⟩ := hrel
    obtain rfl : w = wr := hwr.symm
    by_cases hlt : k < t.size
    · have HG := Lib.hid (getN t hlt)
      by_cases hd1 : 48 ≤ ((t[k]).toNat : Int)
      · by_cases hd2 : ((t[k]).toNat : Int) ≤ 57
        · have HM2 : Hid (Lib.decFrom 0 (t.data.toList.take (k + 1)) = some (m * 10 + ((t[k]).toNat - 48))) := Lib.decFrom_take _ k 0 m _ _ HM.out HG.out (digit_of hd1 hd2)
          have hm2 := decFrom_lt12 HM2.out (by omega)
          obtain ⟨d, hd⟩ : ∃ d : Nat, d = (t[k]).toNat - 48 := ⟨_, rfl⟩
          rw [← hd] at HM2 hm2
          have hdd : (t[k]).toNat - 48 = d := hd.symm
          have hd9 : d ≤ 9 := by omega
          clear hd
          go_wp2
          go_roundw
          case rel => exact ⟨k + 1, m * 10 + d, by omega, by omega, by go_num, by go_num, HM2, by first | rfl | trivial⟩
          case measure => simp [intOf]; omega
        · have hO : O = none := by rw [HO.out]; exact rdL_bad (by rw [HT.out]; exact decFrom_bad HG.out (nodigit_of (.inr (by omega))))
          subst hO
          go_wp2
          go_ret2
          exact ⟨rfl, Below.refl _ _⟩
      · have hO : O = none := by rw [HO.out]; exact rdL_bad (by rw [HT.out]; exact decFrom_bad HG.out (nodigit_of (.inl (by omega))))
        subst hO
        go_wp2
        go_ret2
        exact ⟨rfl, Below.refl _ _⟩
    · obtain rfl : k = t.size := by omega
      have HD : Hid (Lib.decFrom 0 t.data.toList = some m) := by
        have h1 := HM.out
        rwa [List.take_of_length_le (by rw [sizeN]; exact Nat.le_refl _)] at h1
      have hF := formatInt_any (-(m : Int)) w (wfN (by omega) (by omega))
      have hO : O = if Lib.itoa (-(m : Int)) = s.data.toList then some (-(m : Int)) else none := by
        rw [HO.out, rdL_num (n := m) (by rw [HT.out, sizeN]; omega) (by rw [HT.out]; exact HD.out), HV.out]
      by_cases he : Lib.itoa (-(m : Int)) = s.data.toList
      · rw [if_pos he] at hO
        subst hO
        have he' : (Lib.itoa (-(m : Int)) == s.toList) = true := by rw [toListN, he]; simp
        generalize Lib.itoa (-(m : Int)) = L at he' hF
        clear he
        go_wp2_with fail
        refine hF.mono ?_
        rintro e w1 ⟨rfl, hb1⟩
        go_wp2
        go_ret2
        exact ⟨rfl, hb1⟩
      · rw [if_neg he] at hO
        subst hO
        have he' : (Lib.itoa (-(m : Int)) == s.toList) = false := by rw [toListN, beq_eq_false_iff_ne]; exact he
        generalize Lib.itoa (-(m : Int)) = L at he' hF
        clear he
        go_wp2_with fail
        refine hF.mono ?_
        rintro e w1 ⟨rfl, hb1⟩
        go_wp2
        go_ret2
        exact ⟨rfl, hb1⟩

set_option maxHeartbeats 1000000 in
theorem l1Read_any (s : ByteArray) (most : Nat) (w : World) (hm : most ≤ 12) (hs : s.size ≤ 1048576) :
    Calls Tryd.prog 32 #[.string s, .int .i64 most] w (RetV w (prs (rdL most s.data.toList))) := by
  by_cases h0 : 0 < s.size
  · by_cases hc : ((s[0]).toNat : Int) = 45
    · exact l1Read_minus s most w hm h0 hc hs
    · exact l1Read_plain s most w hm h0 hc hs
  · have hO : rdL most s.data.toList = none := rdL_short (by
      have h1 : s.data.toList = [] := List.length_eq_zero_iff.1 (by rw [sizeN]; omega)
      rw [h1]; simp [rdT, rdNeg])
    rw [hO]
    unfold prs
    have hz : s.size = 0 := by omega
    have hz' : ((s.size : Nat) : Int) < 1 := by omega
    clear hO
    go_enter Tryd.func32, Tryd.ntmps32
    go_wp2
    go_ret2
    exact ⟨rfl, Below.refl _ _⟩

theorem spec_ParseInt (s : ByteArray) (w : World) (hs : s.size ≤ 1048576) :
    Calls Tryd.prog 19 #[.string s] w (RetV w (prs (numIn (-999999999999) 999999999999 s.data.toList))) := by
  have hR := l1Read_any s 12 w (by omega) hs
  rw [rdL_num12] at hR
  generalize numIn (-999999999999) 999999999999 s.data.toList = O at hR ⊢
  unfold prs at hR ⊢
  go_enter Tryd.func19, Tryd.ntmps19
  go_wp2_with fail
  refine hR.mono ?_
  rintro e w1 ⟨rfl, hb1⟩
  go_wp2
  go_ret2
  exact ⟨rfl, hb1⟩

theorem spec_ParseNumber (s : ByteArray) (w : World) (hs : s.size ≤ 1048576) :
    Calls Tryd.prog 21 #[.string s] w (RetV w (prs (numIn 0 999999 s.data.toList))) := by
  have hR := l1Read_any s 6 w (by omega) hs
  have e6 : (10 : Nat) ^ 6 = 1000000 := by decide
  rw [← rdP_num6]
  unfold rdP
  cases hO : rdL 6 s.data.toList with
  | none =>
    rw [hO] at hR
    unfold prs at hR ⊢
    simp only [Option.getD_none, Option.isSome_none] at hR ⊢
    go_enter Tryd.func21, Tryd.ntmps21
    go_wp2_with fail
    refine hR.mono ?_
    rintro e w1 ⟨rfl, hb1⟩
    go_wp2
    go_ret2
    exact ⟨rfl, hb1⟩
  | some v =>
    rw [hO] at hR
    have hv := (rdL_some hO).2.1
    clear hO
    have hv1 : -1000000 ≤ v := by omega
    have hv2 : v ≤ 1000000 := by omega
    clear hv e6
    by_cases hneg : v < 0
    · simp only [if_pos hneg]
      unfold prs at hR ⊢
      simp only [Option.getD_none, Option.isSome_none, Option.getD_some, Option.isSome_some] at hR ⊢
      go_enter Tryd.func21, Tryd.ntmps21
      go_wp2_with fail
      refine hR.mono ?_
      rintro e w1 ⟨rfl, hb1⟩
      go_wp2
      go_ret2
      exact ⟨rfl, hb1⟩
    · simp only [if_neg hneg]
      unfold prs at hR ⊢
      simp only [Option.getD_some, Option.isSome_some] at hR ⊢
      go_enter Tryd.func21, Tryd.ntmps21
      go_wp2_with fail
      refine hR.mono ?_
      rintro e w1 ⟨rfl, hb1⟩
      go_wp2
      go_ret2
      exact ⟨rfl, hb1⟩
end Go.Proofs.YtmojniiimondfaaDoor
