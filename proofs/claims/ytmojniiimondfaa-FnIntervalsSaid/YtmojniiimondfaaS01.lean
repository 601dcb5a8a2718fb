/- The reference's FormatInt, at every int. No condition. -/
import Derived.Test.YtmojniiimondfaaF02
import Derived.Lib.ItoaLen
import Derived.Laws.IdiomStrings
namespace Go.Proofs.Ytmojniiimondfaa
open Go.RowKit

/-- The decimal digits; none of 0. -/
def dg0 (u : Nat) : List UInt8 := if u = 0 then [] else Lib.decDigits u
theorem dg0_step {u : Nat} (h : u ≠ 0) : dg0 u = dg0 (u / 10) ++ [UInt8.ofNat (48 + u % 10)] := by
  unfold dg0
  rw [if_neg h]
  by_cases h1 : u < 10
  · rw [Lib.decDigits_one h1, if_pos (by omega), Nat.mod_eq_of_lt h1]; rfl
  · rw [Lib.decDigits, dif_neg h1, if_neg (by omega)]
theorem itoa_dg0 {n : Int} (h : n ≠ 0) : Lib.itoa n = (if n < 0 then [45] else []) ++ dg0 n.natAbs := by
  unfold Lib.itoa dg0
  by_cases h1 : n < 0
  · rw [if_pos h1, if_pos h1, if_neg (by omega)]; rfl
  · rw [if_neg h1, if_neg h1, if_neg (by omega), show n.toNat = n.natAbs by omega]; rfl

theorem tdm (t : Int) : ∃ D Q : Int, t.tmod 10 = D ∧ t.tdiv 10 = Q ∧ D.natAbs = t.natAbs % 10 ∧ Q.natAbs = t.natAbs / 10 ∧ (0 ≤ t → 0 ≤ D ∧ 0 ≤ Q) ∧ (t ≤ 0 → D ≤ 0 ∧ Q ≤ 0) := by
  refine ⟨_, _, rfl, rfl, by rw [Int.natAbs_tmod]; rfl, by rw [Int.natAbs_tdiv]; rfl, fun h => ⟨Int.tmod_nonneg _ h, Int.tdiv_nonneg h (by decide)⟩, fun h => ?_⟩
  have h1 : 0 ≤ -t := by omega
  have h2 := Int.tmod_nonneg 10 h1
  have h3 := Int.tdiv_nonneg h1 (show (0:Int) ≤ 10 by decide)
  rw [Int.neg_tmod] at h2
  rw [Int.neg_tdiv] at h3
  omega
/-- 'string([]byte{byte(48+d)})'. -/
theorem conv1 (w : World) (d : Nat) (hd : d < 10) :
    (convert 33 9 (.slice (some ⟨w.heap.size, 0, none⟩) 1 1)).run Try.prog (w.alloc (.cells #[.int .u8 (48 + (d : Int))] 5)) = .ok (.string ⟨#[UInt8.ofNat (48 + d)]⟩) (w.alloc (.cells #[.int .u8 (48 + (d : Int))] 5)) :=
  run_convert_bytes_back _ _ _ _ _ _ [UInt8.ofNat (48 + d)] Try.underlying33 Try.underlying5 Try.underlying9 (fun j hj => by
    have hj0 : j = 0 := by simpa using hj
    subst hj0
    have h1 : (UInt8.ofNat (48 + d)).toNat = 48 + d := by rw [UInt8.toNat_ofNat']; omega
    rw [List.getElem_cons_zero, h1, Addr.add_lit]
    simp)
theorem app1 (b : UInt8) (s : ByteArray) : (({ data := #[b] } : ByteArray) ++ s).data.toList = b :: s.data.toList := by
  simp [ByteArray.append, ByteArray.data_append]

set_option maxHeartbeats 1000000 in
set_option maxRecDepth 100000 in
theorem formatInt_any (n : Int) (w : World) (hw : (Lit.int .i64 n).wf = true) :
    Calls Try.prog 101 #[.int .i64 n] w (RetV w (.string ⟨(Lib.itoa n).toArray⟩)) := by
  by_cases h0 : n = 0
  · subst h0
    have e : Lib.itoa 0 = [48] := by unfold Lib.itoa; rw [if_neg (by omega)]; exact Lib.decDigits_one (by decide)
    rw [e]; clear e
    go_enter Try.func101, Try.ntmps101
    go_wp2
    go_ret
    exact ⟨rfl, Below.refl _ _⟩
  · have hb : -9223372036854775808 ≤ n ∧ n ≤ 9223372036854775807 := by
      have h1 := hw; simp [Lit.wf] at h1; have e1 : IntKind.i64.min = -9223372036854775808 := by decide
      have e2 : IntKind.i64.max = 9223372036854775807 := by decide
      omega
    have h0' : (n == 0) = false := by rw [beq_eq_false_iff_ne]; exact h0
    have hE0 := itoa_dg0 h0
    obtain ⟨E, hE⟩ : ∃ E, E = Lib.itoa n := ⟨_, rfl⟩
    rw [← hE] at hE0 ⊢
    clear hE
    obtain ⟨bl, hbl⟩ : ∃ bl, decide (n < 0) = bl := ⟨_, rfl⟩
    have HE : Hid (E = (if bl = true then [45] else []) ++ dg0 n.natAbs) := by
      show _ = _; rw [hE0, ← hbl]; simp
    have hlen : (dg0 n.natAbs).length ≤ 21 := by
      have h1 := Lib.itoa_length_le n hb.1 hb.2
      rw [itoa_dg0 h0, List.length_append] at h1; omega
    clear hE0
    obtain ⟨hb1, hb2⟩ := hb
    go_enter Try.func101, Try.ntmps101
    go_wp2
    go_loopw [0, 4] (fun tv ov wr => ∃ (t : Int) (s : ByteArray), (t.natAbs ≤ n.natAbs) ∧ Hid (n < 0 → t ≤ 0) ∧ Hid (0 ≤ n → 0 ≤ t) ∧ tv = .int .i64 t ∧ ov = .string s ∧ Hid (dg0 n.natAbs = dg0 t.natAbs ++ s.data.toList) ∧ Below w.heap.size w wr) (fun tv _ _ => (intOf tv).natAbs)
    case atStart => exact ⟨n, ⟨#[]⟩, Nat.le_refl _, by intro h; omega, by intro h; omega, rfl, rfl, by simp [Hid], Below.refl _ _⟩
    case round =>
      obtain ⟨t, s, ht1, HT2, HT3, rfl, rfl, HS, hb⟩ := hrel
      have hs21 : s.size ≤ 21 := by
        have h1 := HS.out
        have h2 : s.size = s.data.toList.length := by rw [Array.length_toList]; rfl
        rw [h1, List.length_append] at hlen; omega
      have ht2 := HT2.out
      have ht3 := HT3.out
      by_cases htz : t = 0
      · subst htz
        have HF : Hid (dg0 n.natAbs = s.data.toList) := HS.out
        clear ht2 ht3 HS
        cases bl with
        | true =>
          have hE2 : E = 45 :: s.data.toList := by have h1 := HE.out; rw [HF.out] at h1; simpa using h1
          have HE2 := Lib.hid hE2
          clear hE2 HE HF
          go_wp2
          go_ret
          exact ⟨by
            rw [HE2.out]
            show Ending.returned (Value.string _) = _
            congr 2, hb⟩
        | false =>
          have hE2 : E = s.data.toList := by have h1 := HE.out; rw [HF.out] at h1; simpa using h1
          have HE2 := Lib.hid hE2
          clear hE2 HE HF
          go_wp2
          go_ret
          exact ⟨by
            rw [HE2.out]
            show Ending.returned (Value.string _) = _
            congr 2, hb⟩
      · obtain ⟨D, Q, hD, hQ, hda, hqa, hp, hm⟩ := tdm t
        have htz' : (t != 0) = true := by simpa using htz
        obtain ⟨d, hd⟩ : ∃ d, d = t.natAbs % 10 := ⟨_, rfl⟩
        have hd10 : d < 10 := by omega
        have HS' : Hid (dg0 n.natAbs = dg0 Q.natAbs ++ (UInt8.ofNat (48 + d)) :: s.data.toList) := by
          show _ = _
          rw [HS.out, dg0_step (by omega), hqa, ← hd, List.append_assoc]; rfl
        have hQb : Q.natAbs < t.natAbs := by omega
        have hQn : Q.natAbs ≤ n.natAbs := by omega
        have HT2' : Hid (n < 0 → Q ≤ 0) := fun h => (hm (ht2 h)).2
        have HT3' : Hid (0 ≤ n → 0 ≤ Q) := fun h => (hp (ht3 h)).2
        have hwQ : wrap64 Q = Q := by unfold wrap64; omega
        have hc := fun W : World => conv1 W d hd10
        obtain ⟨bt, hbt⟩ : ∃ bt : UInt8, bt = UInt8.ofNat (48 + d) := ⟨_, rfl⟩
        simp only [← hbt] at hc
        rw [← hbt] at HS'
        clear hbt
        by_cases hDn : D < 0
        · obtain rfl : D = -(d : Int) := by omega
          have hd1 : 1 ≤ d := by omega
          have hd2 : -(d : Int) < 0 := by omega
          clear hda hqa hp hm ht2 ht3 HT2 HT3 HS hd hDn
          go_wp2
          go_roundw
          case rel => exact ⟨Q, _, hQn, HT2', HT3', rfl, rfl, by rw [app1]; exact HS'.out, hb.alloc hb.size _⟩
          case measure => simp [intOf]; omega
        · obtain rfl : D = (d : Int) := by omega
          have hd2 : ¬ ((d : Int) < 0) := by omega
          clear hda hqa hp hm ht2 ht3 HT2 HT3 HS hd hDn
          go_wp2
          go_roundw
          case rel => exact ⟨Q, _, hQn, HT2', HT3', rfl, rfl, by rw [app1]; exact HS'.out, hb.alloc hb.size _⟩
          case measure => simp [intOf]; omega
end Go.Proofs.Ytmojniiimondfaa
