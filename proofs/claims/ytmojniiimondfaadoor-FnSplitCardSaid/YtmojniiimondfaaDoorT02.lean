/- The laws' marks on slices of strings. Conditions: the lengths are at most 2^21. -/
import Derived.Test.YtmojniiimondfaaDoorT01
import Derived.Test.YtmojniiimondfaaDoorS01
import Derived.Deep.RegionLaw
namespace Go.Proofs.YtmojniiimondfaaDoor
open Go.RowKit

/-- The mark of k. -/
def mkT (k : Nat) : ByteArray := ⟨(109 :: Lib.decDigits k).toArray⟩

set_option maxHeartbeats 1000000 in
theorem markText_any (n : Nat) (w : World) (hn : n ≤ 4294967296) :
    Calls Tryd.prog 27 #[.int .i64 n] w (RetV w (.string (mkT n))) := by
  by_cases h0 : n = 0
  · subst h0
    have e : mkT 0 = ⟨#[109, 48]⟩ := by unfold mkT; rw [Lib.decDigits_one (by decide)]; rfl
    rw [e]; clear e
    go_enter Tryd.func27, Tryd.ntmps27
    go_wp2
    go_ret
    exact ⟨rfl, Below.refl _ _⟩
  · have hE0 : Lib.decDigits n = dg0 n := by unfold dg0; rw [if_neg h0]
    have hlen : (dg0 n).length ≤ 21 := by
      rw [← hE0, Lib.decDigits_length]
      have := Lib.nDigits_le20 n (by omega)
      omega
    obtain ⟨E, hE⟩ : ∃ E, E = mkT n := ⟨_, rfl⟩
    rw [← hE]
    have HE : Hid (E = ⟨(109 :: dg0 n).toArray⟩) := by show _ = _; rw [hE]; unfold mkT; rw [hE0]
    clear hE0 hE
    have hpos : ¬ ((n : Int) ≤ 0) := by omega
    go_enter Tryd.func27, Tryd.ntmps27
    go_wp2
    go_loopw [0, 3] (fun tv ov wr => ∃ (t : Nat) (s : ByteArray), t ≤ n ∧ tv = .int .i64 t ∧ ov = .string s ∧ Hid (dg0 n = dg0 t ++ s.data.toList) ∧ Below w.heap.size w wr) (fun tv _ _ => (intOf tv).natAbs)
    case atStart => exact ⟨n, ⟨#[]⟩, Nat.le_refl _, rfl, rfl, by simp [Hid], Below.refl _ _⟩
    case round =>
      obtain ⟨t, s, ht1, rfl, rfl, HS, hb⟩ := hrel
      have hs21 : s.size ≤ 21 := by
        have h1 := HS.out
        have h2 : s.size = s.data.toList.length := by rw [Array.length_toList]; rfl
        rw [h1, List.length_append] at hlen; omega
      by_cases htz : t = 0
      · subst htz
        have HF : Hid (E = ⟨#[109]⟩ ++ s) := by
          show _ = _
          rw [HE.out, HS.out]
          apply ByteArray.ext
          apply Array.ext'
          rw [app1]; rfl
        clear HS HE
        have hz : ¬ ((0 : Int) < ((0 : Nat) : Int)) := by omega
        go_wp2
        go_ret
        exact ⟨by rw [HF.out]; rfl, hb⟩
      · have htp : (0 : Int) < (t : Int) := by omega
        obtain ⟨D, Q, hD, hQ, hda, hqa, hp, hm⟩ := tdm (t : Int)
        obtain ⟨d, hd⟩ : ∃ d, d = t % 10 := ⟨_, rfl⟩
        obtain ⟨q, hq⟩ : ∃ q, q = t / 10 := ⟨_, rfl⟩
        have hd10 : d < 10 := by omega
        have hp' := hp (by omega)
        obtain rfl : D = (d : Int) := by omega
        obtain rfl : Q = (q : Int) := by omega
        have HS' : Hid (dg0 n = dg0 q ++ (UInt8.ofNat (48 + d)) :: s.data.toList) := by
          show _ = _
          rw [HS.out, dg0_step htz, ← hq, ← hd, List.append_assoc]; rfl
        have hqt : q < t := by omega
        have hc := fun W : World => conv1 W d hd10
        obtain ⟨bt, hbt⟩ : ∃ bt : UInt8, bt = UInt8.ofNat (48 + d) := ⟨_, rfl⟩
        simp only [← hbt] at hc
        rw [← hbt] at HS'
        clear hbt hda hqa hp hm hp' hd hq HS
        go_wp2
        go_roundw
        case rel => exact ⟨q, _, by omega, rfl, rfl, by rw [app1]; exact HS'.out, hb.alloc hb.size _⟩
        case measure => simp [intOf]; omega

/-- The marks' list. -/
def mksT (k0 n : Nat) : List ByteArray := (List.range n).map fun i => mkT (k0 + i)
theorem length_mksT (k0 n : Nat) : (mksT k0 n).length = n := by simp [mksT]
theorem mksT_get {k0 n k : Nat} (h : k < n) : (mksT k0 n)[k]? = some (mkT (k0 + k)) := by simp [mksT, h]

set_option maxHeartbeats 600000 in
/-- The marks are written into the call's own slice. -/
theorem markStringS_own (a : Option Addr) (n c B k0 : Nat) (ss : List ByteArray) (w : World) (ha : OwnS w B a n c ss) (hnb : n ≤ 2097152) (hk1 : k0 ≤ 2147483648) :
    Calls Tryd.prog 14 #[.slice a n c, .int .i64 k0] w fun e w' => e = .returned (.int .i64 ((k0 : Int) + (n : Int))) ∧ OwnS w' B a n c (mksT k0 n) ∧ (∃ row, w.grownBy w' row ∧ row = (Value.slice a n c).ownBlock) := by
  have HN : Hid (ss.length = n) := ha.1
  go_enter Tryd.func14, Tryd.ntmps14
  go_wp2
  go_loopw [1, 5] (fun kv i wr => ∃ k : Nat, k ≤ n ∧ i = .int .i64 k ∧ kv = .int .i64 ((k0 : Int) + (k : Int)) ∧ OwnS wr B a n c ((mksT k0 n).take k ++ ss.drop k) ∧ w.grownBy wr (Value.slice a n c).ownBlock) (fun _ i _ => n - (intOf i).toNat)
  case atStart => exact ⟨0, Nat.zero_le _, rfl, by go_num, by simpa using ha, World.grownBy.refl _ _⟩
  case round =>
    obtain ⟨k, hk, rfl, rfl, ho, hg⟩ := hrel
    by_cases hlt : k < n
    · obtain ⟨g, rfl, hgB, hgs⟩ := ho.head (by omega)
      have hC : ∀ W, Calls Tryd.prog 27 #[.int .i64 ((k0 : Int) + (k : Int))] W (RetV W (.string (mkT (k0 + k)))) := fun W => markText_any (k0 + k) W (by omega)
      have HM : Hid ((mksT k0 n)[k]? = some (mkT (k0 + k))) := mksT_get hlt
      generalize mkT (k0 + k) = M at hC HM
      go_wp2_with fail
      refine (hC wr).mono ?_
      rintro e w1 ⟨rfl, hb1⟩
      have ho1 := ho.below hb1
      have hf := ho1.frozen k
      obtain ⟨y, hy, _⟩ := ho1.cell hlt
      have hg1 : w.grownBy w1 (Value.slice (some ⟨g, 0, none⟩) n c).ownBlock := grownBy_trans hg (Below.toGrown hb1 _)
      obtain ⟨_, h2, h3⟩ := ho1.set k M
      have e : ((mksT k0 n).take k ++ ss.drop k).set k M = (mksT k0 n).take (k + 1) ++ ss.drop (k + 1) := by
        have hl : ((mksT k0 n).take k).length = k := by rw [List.length_take, length_mksT, Nat.min_eq_left hk]
        rw [List.set_append_right _ _ (by omega), hl, Nat.sub_self, List.drop_eq_getElem_cons (by rw [HN.out]; exact hlt), List.set_cons_zero, take_snoc HM.out]
        simp
      rw [e] at h2
      have H2 := Lib.hid h2
      have H3 := Lib.hid (grownBy_trans hg1 h3)
      clear hC ho ho1 hg hg1 h2 h3 e hb1 HM
      go_wp2
      go_roundw
      case rel => exact ⟨k + 1, by omega, by go_num, by go_num, H2.out, H3.out⟩
      case measure => simp [intOf]; omega
    · obtain rfl : k = n := by omega
      have e : (mksT k0 k).take k ++ ss.drop k = mksT k0 k := by
        rw [List.take_of_length_le (by rw [length_mksT]; exact Nat.le_refl _), List.drop_eq_nil_of_le (by rw [HN.out]; exact Nat.le_refl _), List.append_nil]
      rw [e] at ho
      go_wp2
      go_ret
      exact ⟨rfl, ho, _, hg, rfl⟩

set_option maxHeartbeats 600000 in
/-- The marks are found again. -/
theorem heldStringS_own (a : Option Addr) (n c k0 : Nat) (w : World) (ha : SlS w a n c (mksT k0 n)) (hk1 : k0 ≤ 2147483648) :
    Calls Tryd.prog 15 #[.slice a n c, .int .i64 k0] w (RetV w (.int .i64 ((k0 : Int) + (n : Int)))) := by
  have hnb := ha.2.2.1
  have HA := Lib.hid ha
  clear ha
  go_enter Tryd.func15, Tryd.ntmps15
  go_wp2
  go_loopw [1, 5] (fun kv i wr => ∃ k : Nat, k ≤ n ∧ i = .int .i64 k ∧ kv = .int .i64 ((k0 : Int) + (k : Int)) ∧ Below w.heap.size w wr) (fun _ i _ => n - (intOf i).toNat)
  case atStart => exact ⟨0, Nat.zero_le _, rfl, by go_num, Below.refl _ _⟩
  case round =>
    obtain ⟨k, hk, rfl, rfl, hb⟩ := hrel
    by_cases hlt : k < n
    · obtain ⟨ab, ao, x, rfl, hx, HX⟩ := (HA.out.1.below hb).at (i := k) (by rw [length_mksT]; exact hlt)
      obtain rfl : x = mkT (k0 + k) := by have h1 := HX.out; rw [mksT_get hlt] at h1; exact (Option.some.inj h1).symm
      have hC : ∀ W, Calls Tryd.prog 27 #[.int .i64 ((k0 : Int) + (k : Int))] W (RetV W (.string (mkT (k0 + k)))) := fun W => markText_any (k0 + k) W (by omega)
      generalize mkT (k0 + k) = M at hC hx
      have hlb := World.block_lt_of_cell? wr _ hx
      clear HX
      go_wp2_with fail
      go_region_law ((go_simp; go_at_call 27; refine (hC _).mono ?_; rintro e w4 ⟨rfl, hb4⟩; have hx4 : w4.cell? ⟨ab, ao + k, none⟩ = some (.string M) := (hb4.cell (p := ⟨ab, ao + k, none⟩) hlb).trans hx))
      all_goals
        have hbn : Below w.heap.size w w4 := hb.trans (((Below.refl _ wr).drew.trans hb4).mono hb.size)
        go_wp2
        go_roundw
        case rel => exact ⟨k + 1, by omega, by go_num, by go_num, hbn⟩
        case measure => simp [intOf]; omega
    · obtain rfl : k = n := by omega
      go_wp2
      go_ret
      exact ⟨rfl, hb⟩
end Go.Proofs.YtmojniiimondfaaDoor
