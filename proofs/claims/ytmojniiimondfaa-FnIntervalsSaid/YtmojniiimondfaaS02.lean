/- The text of a permutation, of the program and of the reference. No condition. -/
import Derived.Test.YtmojniiimondfaaS01
import Derived.Test.YtmojniiimondfaaII
import Derived.Test.YtmojniiimondfaaApp
namespace Go.Proofs.Ytmojniiimondfaa
open Go.RowKit

theorem infoByte : (Try.prog.info? 5).map (fun i => (i.zero, i.size, i.bytes)) = some (some (.int .u8 0), 1, 1) := by kernel_rfl
/-- The call's own bytes. -/
def OwnB (w : World) (B : Nat) (a : Option Addr) (n c : Nat) (l : List UInt8) : Prop :=
  l.length = n ∧ w.ownsRow B 5 1 (.slice a n c) n (l.map fun b => .int .u8 (b.toNat : Int))
theorem OwnB.below {w w' : World} {B n c : Nat} {a : Option Addr} {l : List UInt8} (h : OwnB w B a n c l) (hb : Below w.heap.size w w') : OwnB w' B a n c l := ⟨h.1, own_below' h.2 hb⟩
theorem OwnB.lit0 (w : World) : OwnB (w.alloc (.cells #[] 5)) w.heap.size (some ⟨w.heap.size, 0, none⟩) 0 0 [] :=
  ⟨rfl, by simpa using World.ownsRow_lit (e := 5) (size := 1) (base := w.heap.size) w #[] 0 (Nat.le_refl _) (Nat.zero_le _) rfl⟩
theorem wpList_appB {w : World} {ops : Array Oper} {rest : List Oper} {o : Oper} {act : Act} {Q : Exit → Act → World → Prop} (hgd : o.guard = none) (s x : Operand)
    (ho : o.op = .call { callee := .builtin .append, args := #[s, x], argTypes := #[33, 33] })
    (B : Nat) (a : Option Addr) (n c : Nat) (l : List UInt8) (hs : act.eval s = .slice a n c) (hown : OwnB w B a n c l)
    (v : Int) (b : UInt8) (hv : (b.toNat : Int) = v) (hx : act.eval x = .slice (some ⟨w.heap.size, 0, none⟩) 1 1) (hn : n < 4194304) (hB : B ≤ w.heap.size)
    (h : ∀ a' c' w', OwnB w' B a' (n + 1) c' (l ++ [b]) → w.grownBy w' (Value.slice a n c).ownBlock → (∀ p, a' = some p → a = some p ∨ w.heap.size ≤ p.block) → wpList Try.prog ops Q rest (act.put o.dst (.slice a' (n + 1) c')) w') :
    wpList Try.prog ops Q (o :: rest) act (w.alloc (.cells #[.int .u8 v] 5)) := by
  subst hv
  exact wpList_app1x hgd s x 33 ho B 5 _ 1 Try.underlying33 infoByte rfl a n c _ hs hown.2 _ rfl hx hn (by omega) hB
    fun a' c' w' h1 h2 _ h4 => h a' c' w' ⟨by rw [List.length_append, hown.1]; rfl, by simpa using h1⟩ h2 h4
theorem convB {w : World} {B n c : Nat} {a : Option Addr} {l : List UInt8} (h : OwnB w B a n c l) (hn : 1 ≤ n) :
    (convert 33 9 (.slice a n c)).run Try.prog w = .ok (.string ⟨l.toArray⟩) w := by
  obtain ⟨h1, h2⟩ := h
  obtain ⟨g, cur, rfl, _, _⟩ := own_head h2 (by omega)
  subst h1
  refine run_convert_bytes_back _ _ _ _ _ _ l Try.underlying33 Try.underlying5 Try.underlying9 (fun j hj => ?_)
  rw [Addr.add_lit, Nat.zero_add, h2.cellAt j (by omega)]
  simp [hj]

/-- The digits of the values, one byte each. -/
def ptL (xs : List Int) : List UInt8 := xs.map fun v => UInt8.ofNat (48 + v.toNat)
def ptx (xs : List Int) : List UInt8 := if Perm8 xs then (if xs = [] then [45] else ptL xs) else []
theorem ptL_take {xs : List Int} {k : Nat} {v : Int} (h : xs[k]? = some v) : ptL (xs.take (k + 1)) = ptL (xs.take k) ++ [UInt8.ofNat (48 + v.toNat)] := by
  unfold ptL; rw [List.take_add_one, h, List.map_append]; rfl
theorem length_ptL (xs : List Int) : (ptL xs).length = xs.length := by simp [ptL]
theorem perm_mem {xs : List Int} (h : Perm8 xs) {k : Nat} {v : Int} (hk : xs[k]? = some v) : 1 ≤ v ∧ v ≤ 8 := by
  have h1 := h.2.1 v (List.mem_of_getElem? hk)
  have h2 := h.1
  omega

set_option maxHeartbeats 1000000 in
theorem impl_PermText (a : Option Addr) (n c : Nat) (xs : List Int) (w : World) (h : SlI w a n c xs) :
    Calls Try.prog 55 #[.slice a n c] w (RetV w (.string ⟨(ptx xs).toArray⟩)) := by
  have hI := impl_IsPerm a n c xs w h
  have HN : Hid (xs.length = n) := h.2.1
  by_cases hp : Perm8 xs
  · rw [decide_eq_true hp] at hI
    have HP : Hid (Perm8 xs) := hp
    have h8 : n ≤ 8 := by have h1 := hp.1; have h2 := HN.out; omega
    by_cases hn0 : n = 0
    · have e : ptx xs = [45] := by
        unfold ptx; rw [if_pos hp, if_pos (List.length_eq_zero_iff.1 (by rw [HN.out, hn0]))]
      rw [e]; clear e hp
      subst hn0
      go_enter Try.func55, Try.ntmps55
      go_wp2_with fail
      refine hI.mono ?_
      rintro e w1 ⟨rfl, hb1⟩
      go_wp2
      go_ret
      exact ⟨rfl, hb1⟩
    · have e : ptx xs = ptL xs := by
        unfold ptx; rw [if_pos hp, if_neg (fun e => hn0 (by rw [← HN.out, e]; rfl))]
      rw [e]; clear e hp
      have hn0' : ((n : Int) == 0) = false := by rw [beq_eq_false_iff_ne]; omega
      obtain ⟨E, hE⟩ : ∃ E, E = ptL xs := ⟨_, rfl⟩
      rw [← hE]
      have HE := Lib.hid hE
      clear hE
      go_enter Try.func55, Try.ntmps55
      go_wp2_with fail
      refine hI.mono ?_
      rintro e w1 ⟨rfl, hb1⟩
      have h1 := h.below hb1
      clear hI
      go_wp2
      go_loopw [3, 15] (fun ov kv wr => ∃ (k : Nat) (a3 : Option Addr) (c3 : Nat), k ≤ n ∧ ov = .slice a3 k c3 ∧ kv = .int .i64 k ∧ Hid (OwnB wr w1.heap.size a3 k c3 (ptL (xs.take k))) ∧ Below w1.heap.size w1 wr) (fun _ kv _ => n - (intOf kv).toNat)
      case atStart => exact ⟨0, _, _, Nat.zero_le _, rfl, by go_num, OwnB.lit0 w1, below_alloc _ _⟩
      case round =>
        obtain ⟨k, a3, c3, hk, rfl, rfl, HO, hb⟩ := hrel
        by_cases hlt : k < n
        · obtain ⟨ab, ao, v, rfl, hx, HX⟩ := (h1.below hb).1.at (i := k) (by rw [HN.out]; exact hlt)
          obtain ⟨hv1, hv2⟩ := perm_mem HP.out HX.out
          obtain ⟨z, rfl⟩ : ∃ z : Nat, v = (z : Int) := ⟨v.toNat, by omega⟩
          obtain ⟨bt, hbe⟩ : ∃ bt : UInt8, bt = UInt8.ofNat (48 + z) := ⟨_, rfl⟩
          have HT : Hid (ptL (xs.take (k + 1)) = ptL (xs.take k) ++ [bt]) := by show _ = _; rw [ptL_take HX.out, hbe]; rfl
          have hbt : (bt.toNat : Int) = 48 + (z : Int) := by rw [hbe, UInt8.toNat_ofNat']; omega
          clear hbe
          have HBT := Lib.hid hbt
          clear hbt
          have hsz := hb.size
          go_wp2_with (at_builtin; refine wpList_appB rfl _ _ rfl w1.heap.size _ _ _ _ rfl HO.out _ bt HBT.out rfl (by omega) hsz ?_)
          intro a4 c4 w4 ho4 hg4 _
          have HO4 : Hid (OwnB w4 w1.heap.size a4 (k + 1) c4 (ptL (xs.take (k + 1)))) := by rw [HT.out]; exact ho4
          have hb4 : Below w1.heap.size w1 w4 := hb.grown hg4 (by omega) (fun j hj => by
            obtain ⟨p, hp', hpb⟩ := ownBlock_some hj
            subst hp'
            have := (HO.out.2.lt _ rfl).1; omega)
          clear ho4 hg4 HT HBT
          go_wp2
          go_roundw
          case rel => exact ⟨k + 1, a4, c4, by omega, rfl, by go_num, HO4, hb4⟩
          case measure => simp [intOf]; omega
        · obtain rfl : k = n := by omega
          have HF : Hid (OwnB wr w1.heap.size a3 k c3 E) := by
            have := HO.out
            rwa [List.take_of_length_le (by rw [HN.out]; exact Nat.le_refl _), ← HE.out] at this
          have hcv := convB HF.out (by omega)
          clear HO
          go_wp2
          go_ret
          exact ⟨rfl, hb1.trans (hb.mono hb1.size)⟩
  · rw [decide_eq_false hp] at hI
    have e : ptx xs = [] := if_neg hp
    rw [e]; clear e hp
    go_enter Try.func55, Try.ntmps55
    go_wp2_with fail
    refine hI.mono ?_
    rintro e w1 ⟨rfl, hb1⟩
    go_wp2
    go_ret
    exact ⟨rfl, hb1⟩

theorem wf_small {n : Int} (h1 : -1000000000000000 ≤ n) (h2 : n ≤ 1000000000000000) : (Lit.int .i64 n).wf = true := by
  have e1 : IntKind.i64.min = -9223372036854775808 := by decide
  have e2 : IntKind.i64.max = 9223372036854775807 := by decide
  simp [Lit.wf]
  omega
theorem itoa_small {z : Nat} (h : z < 10) : Lib.itoa (z : Int) = [UInt8.ofNat (48 + z)] := by
  unfold Lib.itoa; rw [if_neg (by omega)]; exact Lib.decDigits_one h
theorem strApp (l : List UInt8) (b : UInt8) : (⟨l.toArray⟩ : ByteArray) ++ ⟨#[b]⟩ = ⟨(l ++ [b]).toArray⟩ := by
  apply ByteArray.ext
  simp [ByteArray.data_append]

set_option maxHeartbeats 1000000 in
theorem spec_PermText (a : Option Addr) (n c : Nat) (xs : List Int) (w : World) (h : SlI w a n c xs) :
    Calls Try.prog 54 #[.slice a n c] w (RetV w (.string ⟨(ptx xs).toArray⟩)) := by
  have hI := spec_IsPerm a n c xs w h
  have HN : Hid (xs.length = n) := h.2.1
  by_cases hp : Perm8 xs
  · rw [decide_eq_true hp] at hI
    have HP : Hid (Perm8 xs) := hp
    have h8 : n ≤ 8 := by have h1 := hp.1; have h2 := HN.out; omega
    by_cases hn0 : n = 0
    · have e : ptx xs = [45] := by
        unfold ptx; rw [if_pos hp, if_pos (List.length_eq_zero_iff.1 (by rw [HN.out, hn0]))]
      rw [e]; clear e hp
      subst hn0
      go_enter Try.func54, Try.ntmps54
      go_wp2_with fail
      refine hI.mono ?_
      rintro e w1 ⟨rfl, hb1⟩
      go_wp2
      go_ret
      exact ⟨rfl, hb1⟩
    · have e : ptx xs = ptL xs := by
        unfold ptx; rw [if_pos hp, if_neg (fun e => hn0 (by rw [← HN.out, e]; rfl))]
      rw [e]; clear e hp
      have hn0' : ((n : Int) == 0) = false := by rw [beq_eq_false_iff_ne]; omega
      obtain ⟨E, hE⟩ : ∃ E, E = ptL xs := ⟨_, rfl⟩
      rw [← hE]
      have HE := Lib.hid hE
      clear hE
      go_enter Try.func54, Try.ntmps54
      go_wp2_with fail
      refine hI.mono ?_
      rintro e w1 ⟨rfl, hb1⟩
      have h1 := h.below hb1
      clear hI
      go_wp2
      go_loopw [3, 4] (fun ov kv wr => ∃ (k : Nat) (s : ByteArray), k ≤ n ∧ ov = .string s ∧ kv = .int .i64 k ∧ Hid (s = ⟨(ptL (xs.take k)).toArray⟩) ∧ Below w1.heap.size w1 wr) (fun _ kv _ => n - (intOf kv).toNat)
      case atStart => exact ⟨0, _, Nat.zero_le _, rfl, by go_num, rfl, Below.refl _ _⟩
      case round =>
        obtain ⟨k, s, hk, rfl, rfl, HS, hb⟩ := hrel
        have hss : s.size = k := by
          rw [HS.out]
          show (ptL (xs.take k)).toArray.size = k
          rw [List.size_toArray, length_ptL, List.length_take, HN.out]; omega
        by_cases hlt : k < n
        · obtain ⟨ab, ao, v, rfl, hx, HX⟩ := (h1.below hb).1.at (i := k) (by rw [HN.out]; exact hlt)
          obtain ⟨hv1, hv2⟩ := perm_mem HP.out HX.out
          obtain ⟨z, rfl⟩ : ∃ z : Nat, v = (z : Int) := ⟨v.toNat, by omega⟩
          obtain ⟨bt, hbt⟩ : ∃ bt : UInt8, bt = UInt8.ofNat (48 + z) := ⟨_, rfl⟩
          have HT : Hid (s ++ ⟨#[bt]⟩ = ⟨(ptL (xs.take (k + 1))).toArray⟩) := by show _ = _; rw [ptL_take HX.out, HS.out, strApp, hbt]; rfl
          have hF := formatInt_any (z : Int) wr (wf_small (by omega) (by omega))
          rw [itoa_small (by omega), ← hbt] at hF
          clear hbt
          go_wp2_with fail
          refine hF.mono ?_
          rintro e w2 ⟨rfl, hb2⟩
          have hbn : Below w1.heap.size w1 w2 := hb.trans (hb2.mono hb.size)
          have hs1 : (⟨#[bt]⟩ : ByteArray).size = 1 := rfl
          clear hF hb2
          go_wp2
          go_roundw
          case rel => exact ⟨k + 1, _, by omega, rfl, by go_num, HT, hbn⟩
          case measure => simp [intOf]; omega
        · obtain rfl : k = n := by omega
          have HF : Hid (s = ⟨E.toArray⟩) := by
            have := HS.out
            rwa [List.take_of_length_le (by rw [HN.out]; exact Nat.le_refl _), ← HE.out] at this
          go_wp2
          go_ret
          exact ⟨by rw [← HF.out]; rfl, hb1.trans (hb.mono hb1.size)⟩
  · rw [decide_eq_false hp] at hI
    have e : ptx xs = [] := if_neg hp
    rw [e]; clear e hp
    go_enter Try.func54, Try.ntmps54
    go_wp2_with fail
    refine hI.mono ?_
    rintro e w1 ⟨rfl, hb1⟩
    go_wp2
    go_ret
    exact ⟨rfl, hb1⟩
end Go.Proofs.Ytmojniiimondfaa
