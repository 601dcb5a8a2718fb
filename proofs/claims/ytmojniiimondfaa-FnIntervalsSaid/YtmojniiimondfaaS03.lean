/- A permutation read from a text, of the program and of the reference. Condition: at most 2^20 bytes. -/
import Derived.Test.YtmojniiimondfaaS02
import Derived.Laws.Strings
namespace Go.Proofs.Ytmojniiimondfaa
open Go.RowKit

def dash : ByteArray := ⟨#[45]⟩
def prsL (s : ByteArray) : List Int := s.data.toList.map fun b => (b.toNat : Int) - 48
def PrsOk (s : ByteArray) : Prop := s.size ≠ 0 ∧ Perm8 (prsL s)
instance (s : ByteArray) : Decidable (PrsOk s) := by unfold PrsOk; infer_instance
def prsP (s : ByteArray) : List Int := if s = dash then [] else if PrsOk s then prsL s else []
def prsB (s : ByteArray) : Bool := decide (s = dash) || decide (PrsOk s)
theorem length_prsL (s : ByteArray) : (prsL s).length = s.size := by
  unfold prsL; rw [List.length_map, Array.length_toList]; rfl
theorem length_prsP (s : ByteArray) : (prsP s).length ≤ s.size := by
  unfold prsP
  split
  · simp
  · split
    · rw [length_prsL]; exact Nat.le_refl _
    · simp
theorem prsL_take {s : ByteArray} {k : Nat} (h : k < s.size) : (prsL s).take (k + 1) = (prsL s).take k ++ [((s[k]).toNat : Int) - 48] := by
  have h1 : (prsL s)[k]? = some (((s[k]).toNat : Int) - 48) := by
    unfold prsL
    rw [List.getElem?_map, List.getElem?_eq_getElem (by rw [Array.length_toList]; exact h)]; rfl
  rw [List.take_add_one, h1]; rfl
theorem prs_upb (s : ByteArray) : ∀ v ∈ prsL s, -48 ≤ v ∧ v ≤ 207 := by
  intro v hv
  obtain ⟨b, _, rfl⟩ := List.mem_map.1 hv
  have := b.toNat_lt
  omega
theorem toListD (s : ByteArray) : s.toList = s.data.toList := ByteArray.toList_eq s
theorem dash_size : dash.size = 1 := rfl
theorem empty_iff (s : ByteArray) : s = ⟨#[]⟩ ↔ s.size = 0 := by
  constructor
  · rintro rfl; rfl
  · intro h; exact ByteArray.ext (Array.eq_empty_of_size_eq_zero h)

set_option maxHeartbeats 1000000 in
theorem impl_ParsePerm (s : ByteArray) (w : World) (hs : s.size ≤ 1048576) :
    Calls Try.prog 57 #[.string s] w (RetIB w (prsP s) (prsB s)) := by
  by_cases hd : s = dash
  · have e1 : prsP s = [] := if_pos hd
    have e2 : prsB s = true := by unfold prsB; rw [decide_eq_true hd]; rfl
    rw [e1, e2]; clear e1 e2
    subst hd
    unfold dash
    go_enter Try.func57, Try.ntmps57
    go_wp2
    go_ret2
    exact ⟨_, _, _, rfl, OwnI.lit0 w, below_alloc _ _⟩
  · have hd2 : (s.toList == [45]) = false := by
      rw [beq_eq_false_iff_ne]; intro e; rw [toListD] at e
      exact hd (ByteArray.ext (Array.ext' e))
    have HD : Hid (¬ s = dash) := hd
    obtain ⟨L, hL⟩ : ∃ L, L = prsL s := ⟨_, rfl⟩
    have HL := Lib.hid hL
    have hLn : L.length = s.size := by rw [hL, length_prsL]
    clear hd hL
    go_enter Try.func57, Try.ntmps57
    go_wp2
    go_loopw [4, 12] (fun ov kv wr => ∃ (k : Nat) (a3 : Option Addr) (c3 : Nat), k ≤ s.size ∧ ov = .slice a3 k c3 ∧ kv = .int .i64 k ∧ Hid (OwnI wr w.heap.size a3 k c3 (L.take k)) ∧ Below w.heap.size w wr) (fun _ kv _ => s.size - (intOf kv).toNat)
    case atStart => exact ⟨0, _, _, Nat.zero_le _, rfl, by go_num, OwnI.lit0 w, below_alloc _ _⟩
    case round =>
      obtain ⟨k, a3, c3, hk, rfl, rfl, HO, hb⟩ := hrel
      by_cases hlt : k < s.size
      · have HT : Hid (L.take (k + 1) = L.take k ++ [((s[k]).toNat : Int) - 48]) := by show _ = _; rw [HL.out]; exact prsL_take hlt
        have hsz := hb.size
        have hbt := (s[k]).toNat_lt
        go_wp2_with (at_builtin; refine wpList_appI rfl _ _ rfl w.heap.size _ _ _ _ rfl HO.out _ rfl (by omega) hsz ?_)
        intro a4 c4 w4 ho4 hg4
        have HO4 : Hid (OwnI w4 w.heap.size a4 (k + 1) c4 (L.take (k + 1))) := by rw [HT.out]; exact ho4
        have hb4 : Below w.heap.size w w4 := hb.trans hg4
        clear ho4 hg4 HT
        go_wp2
        go_roundw
        case rel => exact ⟨k + 1, a4, c4, by omega, rfl, by go_num, HO4, hb4⟩
        case measure => simp [intOf]; omega
      · obtain rfl : k = s.size := by omega
        have HF : Hid (OwnI wr w.heap.size a3 s.size c3 L) := by
          have := HO.out
          rwa [List.take_of_length_le (by rw [hLn]; exact Nat.le_refl _)] at this
        by_cases h0 : s.size = 0
        · have hs0 := (empty_iff s).2 h0
          have e1 : prsP s = [] := by unfold prsP; rw [if_neg HD.out, if_neg (fun h => h.1 h0)]
          have e2 : prsB s = false := by unfold prsB; rw [decide_eq_false HD.out, decide_eq_false (fun h => h.1 h0)]; rfl
          have HE1 := Lib.hid e1
          have HE2 := Lib.hid e2
          subst hs0
          clear e1 e2 HO HL hd2
          go_wp2
          go_ret2
          exact ⟨_, _, _, by rw [HE2.out]; rfl, by rw [HE1.out]; exact OwnI.nil _ _, hb⟩
        · have hs0 : (s.toList == ([] : List UInt8)) = false := by
            rw [beq_eq_false_iff_ne]; intro e; rw [toListD] at e
            exact h0 ((empty_iff s).1 (ByteArray.ext (Array.ext' e)))
          have hI := impl_IsPerm a3 s.size c3 L wr (HF.out.sl (by omega))
          by_cases hp : Perm8 L
          · rw [decide_eq_true hp] at hI
            have hok : PrsOk s := ⟨h0, by rw [← HL.out]; exact hp⟩
            have e1 : prsP s = L := by unfold prsP; rw [if_neg HD.out, if_pos hok, HL.out]
            have e2 : prsB s = true := by unfold prsB; rw [decide_eq_true hok]; simp
            have HE1 := Lib.hid e1
            have HE2 := Lib.hid e2
            clear e1 e2 hok hp HO
            go_wp2_with fail
            refine hI.mono ?_
            rintro e w2 ⟨rfl, hb2⟩
            have HF2 := Lib.hid (HF.out.below hb2)
            clear hI
            go_wp2
            go_ret2
            exact ⟨_, _, _, by rw [HE2.out]; rfl, by rw [HE1.out]; exact HF2.out, hb.trans (hb2.mono hb.size)⟩
          · rw [decide_eq_false hp] at hI
            have hok : ¬ PrsOk s := fun h => hp (by rw [HL.out]; exact h.2)
            have e1 : prsP s = [] := by unfold prsP; rw [if_neg HD.out, if_neg hok]
            have e2 : prsB s = false := by unfold prsB; rw [decide_eq_false HD.out, decide_eq_false hok]; rfl
            have HE1 := Lib.hid e1
            have HE2 := Lib.hid e2
            clear e1 e2 hok hp HO
            go_wp2_with fail
            refine hI.mono ?_
            rintro e w2 ⟨rfl, hb2⟩
            have hbn := hb.trans (hb2.mono hb.size)
            have hszn := hbn.size
            clear hI
            go_wp2
            go_ret2
            exact ⟨_, _, _, by rw [HE2.out]; rfl, by rw [HE1.out]; exact OwnI.nil _ _, hbn⟩

set_option maxHeartbeats 1000000 in
theorem spec_ParsePerm (s : ByteArray) (w : World) (hs : s.size ≤ 1048576) :
    Calls Try.prog 56 #[.string s] w (RetIB w (prsP s) (prsB s)) := by
  by_cases hd : s = dash
  · have e1 : prsP s = [] := if_pos hd
    have e2 : prsB s = true := by unfold prsB; rw [decide_eq_true hd]; rfl
    rw [e1, e2]; clear e1 e2
    subst hd
    unfold dash
    go_enter Try.func56, Try.ntmps56
    go_wp2
    go_ret2
    exact ⟨_, _, _, rfl, OwnI.lit0 w, below_alloc _ _⟩
  · have hd2 : (s.toList == [45]) = false := by
      rw [beq_eq_false_iff_ne]; intro e; rw [toListD] at e
      exact hd (ByteArray.ext (Array.ext' e))
    have HD : Hid (¬ s = dash) := hd
    obtain ⟨L, hL⟩ : ∃ L, L = prsL s := ⟨_, rfl⟩
    have HL := Lib.hid hL
    have hLn : L.length = s.size := by rw [hL, length_prsL]
    clear hd hL
    go_enter Try.func56, Try.ntmps56
    go_wp2
    go_loopw [4, 5] (fun ov kv wr => ∃ (k : Nat) (a3 : Option Addr) (c3 : Nat), k ≤ s.size ∧ ov = .slice a3 k c3 ∧ kv = .int .i64 k ∧ Hid (OwnI wr w.heap.size a3 k c3 (L.take k)) ∧ Below w.heap.size w wr) (fun _ kv _ => s.size - (intOf kv).toNat)
    case atStart => exact ⟨0, _, _, Nat.zero_le _, rfl, by go_num, OwnI.lit0 w, below_alloc _ _⟩
    case round =>
      obtain ⟨k, a3, c3, hk, rfl, rfl, HO, hb⟩ := hrel
      by_cases hlt : k < s.size
      · have HT : Hid (L.take (k + 1) = L.take k ++ [((s[k]).toNat : Int) - 48]) := by show _ = _; rw [HL.out]; exact prsL_take hlt
        have hsz := hb.size
        have hbt := (s[k]).toNat_lt
        go_wp2_with (at_builtin; refine wpList_appI rfl _ _ rfl w.heap.size _ _ _ _ rfl HO.out _ rfl (by omega) hsz ?_)
        intro a4 c4 w4 ho4 hg4
        have HO4 : Hid (OwnI w4 w.heap.size a4 (k + 1) c4 (L.take (k + 1))) := by rw [HT.out]; exact ho4
        have hb4 : Below w.heap.size w w4 := hb.trans hg4
        clear ho4 hg4 HT
        go_wp2
        go_roundw
        case rel => exact ⟨k + 1, a4, c4, by omega, rfl, by go_num, HO4, hb4⟩
        case measure => simp [intOf]; omega
      · obtain rfl : k = s.size := by omega
        have HF : Hid (OwnI wr w.heap.size a3 s.size c3 L) := by
          have := HO.out
          rwa [List.take_of_length_le (by rw [hLn]; exact Nat.le_refl _)] at this
        by_cases h0 : s.size = 0
        · have hs0 := (empty_iff s).2 h0
          have e1 : prsP s = [] := by unfold prsP; rw [if_neg HD.out, if_neg (fun h => h.1 h0)]
          have e2 : prsB s = false := by unfold prsB; rw [decide_eq_false HD.out, decide_eq_false (fun h => h.1 h0)]; rfl
          have HE1 := Lib.hid e1
          have HE2 := Lib.hid e2
          subst hs0
          clear e1 e2 HO HL hd2
          go_wp2
          go_ret2
          exact ⟨_, _, _, by rw [HE2.out]; rfl, by rw [HE1.out]; exact (OwnI.lit0 wr).mono hb.size, hb.alloc hb.size _⟩
        · have hs0 : (s.toList == ([] : List UInt8)) = false := by
            rw [beq_eq_false_iff_ne]; intro e; rw [toListD] at e
            exact h0 ((empty_iff s).1 (ByteArray.ext (Array.ext' e)))
          have hI := spec_IsPerm a3 s.size c3 L wr (HF.out.sl (by omega))
          by_cases hp : Perm8 L
          · rw [decide_eq_true hp] at hI
            have hok : PrsOk s := ⟨h0, by rw [← HL.out]; exact hp⟩
            have e1 : prsP s = L := by unfold prsP; rw [if_neg HD.out, if_pos hok, HL.out]
            have e2 : prsB s = true := by unfold prsB; rw [decide_eq_true hok]; simp
            have HE1 := Lib.hid e1
            have HE2 := Lib.hid e2
            clear e1 e2 hok hp HO
            go_wp2_with fail
            refine hI.mono ?_
            rintro e w2 ⟨rfl, hb2⟩
            have HF2 := Lib.hid (HF.out.below hb2)
            clear hI
            go_wp2
            go_ret2
            exact ⟨_, _, _, by rw [HE2.out]; rfl, by rw [HE1.out]; exact HF2.out, hb.trans (hb2.mono hb.size)⟩
          · rw [decide_eq_false hp] at hI
            have hok : ¬ PrsOk s := fun h => hp (by rw [HL.out]; exact h.2)
            have e1 : prsP s = [] := by unfold prsP; rw [if_neg HD.out, if_neg hok]
            have e2 : prsB s = false := by unfold prsB; rw [decide_eq_false HD.out, decide_eq_false hok]; rfl
            have HE1 := Lib.hid e1
            have HE2 := Lib.hid e2
            clear e1 e2 hok hp HO
            go_wp2_with fail
            refine hI.mono ?_
            rintro e w2 ⟨rfl, hb2⟩
            have hbn := hb.trans (hb2.mono hb.size)
            have hszn := hbn.size
            clear hI
            go_wp2
            go_ret2
            exact ⟨_, _, _, by rw [HE2.out]; rfl, by rw [HE1.out]; exact (OwnI.lit0 w2).mono hszn, hbn.alloc hszn _⟩
end Go.Proofs.Ytmojniiimondfaa
