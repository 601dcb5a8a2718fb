/- The draws of lists of integers. Condition: the code is at most 2^20 bytes. -/
import Derived.Test.YtmojniiimondfaaD02
import Derived.Test.YtmojniiimondfaaApp
import Derived.Test.YtmojniiimondfaaF62
namespace Go.Proofs.Ytmojniiimondfaa
open Go.RowKit

theorem Byts.belowAt {w w' : World} {hi n B : Nat} {a : Option Addr} (h : Byts w hi a n) (hb : Below B w w') (hB : hi ≤ B) : Byts w' hi a n := by
  intro i hi'
  obtain ⟨b, o, z, h1, h2, h3, h4⟩ := h i hi'
  exact ⟨b, o, z, h1, h2, (hb.cell (p := ⟨b, o + i, none⟩) (show b < B by omega)).trans h3, h4⟩
theorem Cur.belowAt {w w' : World} {cu B : Nat} (h : Cur w cu) (hb : Below B w w') (hB : cu < B) : Cur w' cu := by
  obtain ⟨a, n, c, i, h0, h1, h2, h3, h4, h5, h6, h7, h8, h9⟩ := h
  exact ⟨a, n, c, i, h0, h1, h2, h3.belowAt hb (by omega), Nat.lt_of_lt_of_le h4 hb.size, (hb.cell (p := ⟨cu, 0, none⟩) hB).trans h5, (hb.cell (p := ⟨cu, 1, none⟩) hB).trans h6, (hb.cell (p := ⟨cu, 2, none⟩) hB).trans h7, (hb.frozen (p := ⟨cu, 1, none⟩) hB).trans h8, (hb.frozen (p := ⟨cu, 2, none⟩) hB).trans h9⟩
theorem Out.onBelow {lo hi : Nat} {w a b : World} (h : Out lo hi w a) (k : Below w.heap.size a b) : Out lo hi w b :=
  ⟨k.os.trans h.os, k.tape.trans h.tape, k.output.trans h.output, Nat.le_trans h.size k.size, fun i hi' hr => (k.block i hi').trans (h.block i hi' hr)⟩
theorem Out.onBelow' {lo hi : Nat} {w a b : World} (h : Out lo hi w a) (k : Below w.heap.size a b) : Out lo hi w b := h.onBelow k
theorem OwnI.outC {w w' : World} {B n c cu : Nat} {a : Option Addr} {xs : List Int} (h : OwnI w B a n c xs) (ho : Out cu (cu + 1) w w') (hB : cu < B) : OwnI w' B a n c xs :=
  (h.ins.out ho (.inr hB)).1
theorem OwnI.take {w : World} {B n c g k : Nat} {xs : List Int} (h : OwnI w B (some ⟨g, 0, none⟩) n c xs) (hk : k ≤ n) : OwnI w B (some ⟨g, 0, none⟩) k c (xs.take k) := by
  refine ⟨by rw [List.length_take, h.1]; omega, ?_⟩
  have := ownsRow_take h.2 hk
  rwa [← List.map_take] at this
theorem OwnI.dropSl {w : World} {B n c g k : Nat} {xs : List Int} (h : OwnI w B (some ⟨g, 0, none⟩) n c xs) (hk : k ≤ n) (hn : n ≤ 2097152) :
    SlI w (if c = k then some ⟨g, 0, none⟩ else some ⟨g, k, none⟩) (n - k) (c - k) (xs.drop k) := by
  have hc := h.capOf
  refine ⟨?_, by rw [List.length_drop, h.1], by omega, by omega, by split <;> simp⟩
  by_cases hck : c = k
  · have : xs.drop k = [] := List.drop_eq_nil_of_le (by rw [h.1]; omega)
    rw [this]; exact Ints.nil _ _
  · rw [if_neg hck]
    have := h.ints.drop k
    rwa [Nat.zero_add] at this
/-- 'append(out, y)' on the call's own slice; what else the call owns stands. -/
theorem wpList_appIx {w : World} {ops : Array Oper} {rest : List Oper} {o : Oper} {act : Act} {Q : Exit → Act → World → Prop} (hgd : o.guard = none) (s x : Operand)
    (ho : o.op = .call { callee := .builtin .append, args := #[s, x], argTypes := #[28, 28] })
    (B g n c : Nat) (xs : List Int) (hs : act.eval s = .slice (some ⟨g, 0, none⟩) n c) (hown : OwnI w B (some ⟨g, 0, none⟩) n c xs)
    (y : Int) (g0 : Nat) (hx : act.eval x = .slice (some ⟨g0, 0, none⟩) 1 1) (hg0 : w.heap.size = g0) (hn : n < 4194304) (hB : B ≤ w.heap.size)
    (h : ∀ g' c' w', OwnI w' B (some ⟨g', 0, none⟩) (n + 1) c' (xs ++ [y]) → w.grownBy w' (some g) → (g' = g ∨ w.heap.size ≤ g') → wpList Try.prog ops Q rest (act.put o.dst (.slice (some ⟨g', 0, none⟩) (n + 1) c')) w') :
    wpList Try.prog ops Q (o :: rest) act (w.alloc (.cells #[.int .i64 y] 3)) := by
  subst hg0
  exact wpList_app1x hgd s x 28 ho B 3 _ 8 Try.underlying28 infoInt rfl _ n c _ hs hown.2 _ rfl hx hn (by omega) hB
    fun a' c' w' h1 h2 _ h4 => by
      have hO : OwnI w' B a' (n + 1) c' (xs ++ [y]) := ⟨by rw [List.length_append, hown.1]; rfl, by simpa using h1⟩
      obtain ⟨g', rfl, _, _⟩ := hO.head (by omega)
      refine h g' c' w' hO h2 ?_
      rcases h4 _ rfl with h5 | h5
      · simp only [Option.some.injEq, Addr.mk.injEq, and_true] at h5; exact .inl h5.symm
      · exact .inr h5
/-- A list drawn: the call's own. -/
def RetDL (w : World) (cu m : Nat) (e : Ending) (w' : World) : Prop := ∃ g n c xs, e = .returned (.slice (some ⟨g, 0, none⟩) n c) ∧ n ≤ m ∧ OwnI w' w.heap.size (some ⟨g, 0, none⟩) n c xs ∧ Cur w' cu ∧ Out cu (cu + 1) w w'

/-- .. of just so many. -/
def RetDLE (w : World) (cu m : Nat) (e : Ending) (w' : World) : Prop := ∃ g n c xs, e = .returned (.slice (some ⟨g, 0, none⟩) n c) ∧ n = m ∧ OwnI w' w.heap.size (some ⟨g, 0, none⟩) n c xs ∧ Cur w' cu ∧ Out cu (cu + 1) w w'

set_option maxHeartbeats 1000000 in
theorem l2DrawE_any (cu : Nat) (n : Int) (w : World) (h : Cur w cu) (hn : n ≤ 16) (hn0 : -16 ≤ n) :
    Calls Try.prog 77 #[.pointer (some ⟨cu, 0, none⟩), .int .i64 n] w (RetDLE w cu n.toNat) := by
  have hcl := h.lt
  have hba := below_alloc w (.cells #[] 3)
  have hC0 := h.below hba
  have hO0 : Out cu (cu + 1) w (w.alloc (.cells #[] 3)) := Below.out hba
  go_enter Try.func77, Try.ntmps77
  go_wp2
  go_loopw [5, 6] (fun ov kv wr => ∃ (j g c : Nat) (xs : List Int), j ≤ n.toNat ∧ ov = .slice (some ⟨g, 0, none⟩) j c ∧ kv = .int .i64 ((j : Int) + 1) ∧ Hid (OwnI wr w.heap.size (some ⟨g, 0, none⟩) j c xs) ∧ Hid (Cur wr cu) ∧ Hid (Out cu (cu + 1) w wr)) (fun _ kv _ => n.toNat + 1 - (intOf kv).toNat)
  case atStart => exact ⟨0, w.heap.size, 0, [], Nat.zero_le _, rfl, by go_num, OwnI.lit0 w, hC0, hO0⟩
  case round =>
    obtain ⟨j, g, c, xs, hj, rfl, rfl, HO, HC, HOut⟩ := hrel
    by_cases hlt : (j : Int) + 1 ≤ n
    · have hD := l1Below_any cu ((j : Int) + 1) wr HC.out (by omega) (by omega)
      rw [upB_pos (by omega)] at hD
      go_wp2_with fail
      refine hD.mono ?_
      rintro e w1 ⟨x, rfl, hx1, hx2, hc1, ho1⟩
      obtain ⟨p, rfl⟩ : ∃ p : Nat, x = p := ⟨x.toNat, by omega⟩
      have hpj : p ≤ j := by omega
      have hown1 := HO.out.outC ho1 hcl
      have hsl1 := hown1.dropSl hpj (by omega)
      have hcap := hown1.capOf
      have hsz1 := ho1.size
      have hszw := HOut.out.size
      have hgl := hown1.lo _ rfl
      simp only at hgl
      have hout1 := HOut.out.trans ho1
      have hl1 := OwnI.lit0 w1
      have hb1a := below_alloc w1 (.cells #[] 3)
      have hpcI : (p : Int) ≤ (c : Int) := by omega
      clear hD
      by_cases hz : p < j
      · rw [if_neg (by omega)] at hsl1
        have hpcn : ¬ (c = p) := by omega
        have hz1 : ¬ (j - p = 0) := by omega
        go_wp2_with (at_builtin; refine wpList_append_any rfl _ _ rfl w1.heap.size _ 0 0 [] rfl hl1 _ (j - p) (c - p) _ rfl (hsl1.below hb1a) (by omega) hb1a.size ?_)
        intro a8 c8 w8 ho8 _ hb8
        have hr8 : OwnI w8 w1.heap.size a8 (j - p) c8 (xs.drop p) := by simpa using ho8
        have hw8 : Below w1.heap.size w1 w8 := hb1a.trans hb8
        have hown8 := (hown1.below hw8).take hpj
        have hc8 := hc1.below hw8
        have hsz8 := hw8.size
        have hB8 : w.heap.size ≤ w8.heap.size := by omega
        have HR8 := Lib.hid hr8
        have HC8 := Lib.hid hc8
        have HO8 := Lib.hid hown8
        have HOut8 := Lib.hid (hout1.onBelow (hw8.mono (by omega)))
        clear ho8 hr8 hc8 hown8 hl1 hb1a hb8 hc1 hout1 hown1 hsl1 HO HC HOut ho1
        go_wp2_with (at_builtin; refine wpList_appIx rfl _ _ rfl w.heap.size g p c _ rfl HO8.out _ _ rfl (by simp) (by omega) hB8 ?_)
        intro g9 c9 w9 ho9 hg9 hf9
        have hr9 : OwnI w9 w1.heap.size a8 (j - p) c8 (xs.drop p) := HR8.out.grown hg9 (by
          cases a8 with
          | none => exact .inl rfl
          | some q =>
            refine .inr fun e => ?_
            have h1 := (HR8.out.lo q rfl).1
            simp only [Value.ownBlock, Option.some.injEq] at e
            omega)
        have hb9 : Below w.heap.size w8 w9 := grownBy_below hg9 hB8 (fun k hk => by cases hk; exact hgl.1)
        have hB9 : w.heap.size ≤ w9.heap.size := by have := hb9.size; omega
        have HO9 := Lib.hid ho9
        have HR9 := Lib.hid (hr9.sl (by omega))
        have HC9 := Lib.hid (HC8.out.belowAt hb9 hcl)
        have HOut9 : Hid (Out cu (cu + 1) w w9) := HOut8.out.onBelow hb9
        clear ho9 hr9 hg9 hf9 HC8 HO8 HOut8 HR8 hb9
        go_wp2_with (at_builtin; refine wpList_append_any rfl _ _ rfl w.heap.size _ (p + 1) c9 _ rfl HO9.out _ (j - p) c8 _ rfl HR9.out (by omega) hB9 ?_)
        intro a10 c10 w10 ho10 _ hb10
        obtain ⟨g10, rfl, _, _⟩ := ho10.head (by omega)
        have HC10 := Lib.hid (HC9.out.belowAt hb10 hcl)
        have HOut10 : Hid (Out cu (cu + 1) w w10) := HOut9.out.onBelow hb10
        have hlen : p + 1 + (j - p) = j + 1 := by omega
        have HO10 := Lib.hid ho10
        rw [hlen] at HO10 ⊢
        clear ho10 hb10 HC9 HOut9 HO9 HR9
        go_wp2
        go_roundw
        case rel => exact ⟨j + 1, g10, c10, _, by omega, rfl, by go_num, HO10, HC10, HOut10⟩
        case measure => simp [intOf]; omega
      · obtain rfl : p = j := by omega
        obtain ⟨A, hA⟩ : ∃ A : Addr, (if c = p then some (⟨g, 0, none⟩ : Addr) else some ⟨g, p, none⟩) = some A := by
          by_cases hcp : c = p
          · exact ⟨_, by rw [if_pos hcp]⟩
          · exact ⟨_, by rw [if_neg hcp]⟩
        obtain ⟨g8, hg8⟩ : ∃ g8, g8 = w1.heap.size := ⟨_, rfl⟩
        have hown8 := hown1.below hb1a
        have hc8 := hc1.below hb1a
        have hsz8 := hb1a.size
        have hB8 : w.heap.size ≤ (w1.alloc (.cells #[] 3)).heap.size := by omega
        have HR8 := Lib.hid hl1
        have HC8 := Lib.hid hc8
        have HO8 := Lib.hid hown8
        have HOut8 := Lib.hid (hout1.onBelow (hb1a.mono (by omega)))
        have HS8 := Lib.hid hsz8
        clear hsl1 hc8 hown8 hl1 hc1 hout1 hown1 HO HC HOut ho1 hsz8
        go_wp2_with (at_builtin; refine wpList_appIx rfl _ _ rfl w.heap.size g p c _ rfl HO8.out _ _ rfl (by simp) (by omega) hB8 ?_)
        intro g9 c9 w9 ho9 hg9 hf9
        have hr9 : OwnI w9 w1.heap.size (some ⟨w1.heap.size, 0, none⟩) 0 0 [] := HR8.out.grown hg9 (by
          refine .inr fun e => ?_
          simp only [Value.ownBlock, Option.some.injEq] at e
          omega)
        have hb9 : Below w.heap.size (w1.alloc (.cells #[] 3)) w9 := grownBy_below hg9 hB8 (fun k hk => by cases hk; exact hgl.1)
        have hB9 : w.heap.size ≤ w9.heap.size := by have := hb9.size; omega
        have HO9 := Lib.hid ho9
        have HR9 := Lib.hid (hr9.sl (by omega))
        have HC9 := Lib.hid (HC8.out.belowAt hb9 hcl)
        have HOut9 : Hid (Out cu (cu + 1) w w9) := HOut8.out.onBelow hb9
        clear ho9 hr9 hg9 hf9 HC8 HO8 HOut8 HR8 hb9 hb1a
        go_wp2_with (at_builtin; refine wpList_append_any rfl _ _ rfl w.heap.size _ (p + 1) c9 _ rfl HO9.out _ 0 0 _ rfl HR9.out (by omega) hB9 ?_)
        intro a10 c10 w10 ho10 _ hb10
        obtain ⟨g10, rfl, _, _⟩ := ho10.head (by omega)
        have HC10 := Lib.hid (HC9.out.belowAt hb10 hcl)
        have HOut10 : Hid (Out cu (cu + 1) w w10) := HOut9.out.onBelow hb10
        have hlen : p + 1 + 0 = p + 1 := by omega
        have HO10 := Lib.hid ho10
        rw [hlen] at HO10
        try rw [hlen]
        clear ho10 hb10 HC9 HOut9 HO9 HR9
        go_wp2
        go_roundw
        case rel => exact ⟨p + 1, g10, c10, _, by omega, rfl, by go_num, HO10, HC10, HOut10⟩
        case measure => simp [intOf]; omega
    · have HJ : Hid (j ≤ n.toNat) := hj
      clear hj
      go_wp2
      go_ret
      exact ⟨g, j, c, xs, rfl, by have h1 := HJ.out; omega, HO.out, HC.out, HOut.out⟩

theorem l2Draw_any (cu : Nat) (n : Int) (w : World) (h : Cur w cu) (hn : n ≤ 16) (hn0 : -16 ≤ n) :
    Calls Try.prog 77 #[.pointer (some ⟨cu, 0, none⟩), .int .i64 n] w (RetDL w cu n.toNat) :=
  (l2DrawE_any cu n w h hn hn0).mono fun _ _ ⟨g, m, c, xs, h1, h2, h3⟩ => ⟨g, m, c, xs, h1, Nat.le_of_eq h2, h3⟩

set_option maxHeartbeats 400000 in
theorem l2Any_any (cu : Nat) (w : World) (h : Cur w cu) :
    Calls Try.prog 110 #[.pointer (some ⟨cu, 0, none⟩)] w (RetDL w cu 8) := by
  have hba := below_alloc w (.cells (([0, 1, 2, 3, 4, 5, 5, 6, 6, 7, 8] : List Int).map (.int .i64)).toArray 3)
  have hlt := h.lt
  have hP := l1PickInt_any cu _ _ _ [0, 1, 2, 3, 4, 5, 5, 6, 6, 7, 8] _ (h.below hba) (litI w [0, 1, 2, 3, 4, 5, 5, 6, 6, 7, 8] (by decide)) (by decide) (fun p hp => by obtain rfl := Option.some.inj hp; exact hlt)
  go_enter Try.func110, Try.ntmps110
  go_wp2_with fail
  refine hP.mono ?_
  rintro e w1 ⟨x, rfl, hx, hc1, ho1⟩
  have hx2 : 0 ≤ x ∧ x ≤ 8 := by
    revert hx
    revert x
    decide
  have hD := l2Draw_any cu x w1 hc1 (by omega) (by omega)
  have hoW : Out cu (cu + 1) w w1 := (Below.out hba).trans ho1
  clear hP hx
  go_wp2_with fail
  refine hD.mono ?_
  rintro e w2 ⟨g, n, c, xs, rfl, hn, ho, hc2, ho2⟩
  go_wp2
  go_ret
  exact ⟨g, n, c, xs, rfl, by omega, ho.mono hoW.size, hc2, hoW.trans ho2⟩

set_option maxHeartbeats 1000000 in
theorem l2Bent_any (cu : Nat) (w : World) (h : Cur w cu) :
    Calls Try.prog 78 #[.pointer (some ⟨cu, 0, none⟩)] w (RetDL w cu 9) := by
  have hA := l2Any_any cu w h
  have hcl := h.lt
  go_enter Try.func78, Try.ntmps78
  go_wp2_with fail
  refine hA.mono ?_
  rintro e w1 ⟨g, n, c, xs, rfl, hn, ho, hc1, ho1⟩
  have hB := l1Below_any cu 14 w1 hc1 (by omega) (by omega)
  clear hA
  go_wp2_with fail
  refine hB.mono ?_
  rintro e w2 ⟨x, rfl, hx1, hx2, hc2, ho2⟩
  have hown2 := ho.outC ho2 hcl
  have hout2 := ho1.trans ho2
  clear hB ho
  by_cases h0 : x = 0
  · subst h0
    have hB := l1Below_any cu 12 w2 hc2 (by omega) (by omega)
    rw [upB_pos (by omega)] at hB
    go_wp2_with fail
    refine hB.mono ?_
    rintro e w3 ⟨y, rfl, hy1, hy2, hc3, ho3⟩
    have hown3 := hown2.outC ho3 hcl
    have hout3 := hout2.trans ho3
    have hsz3 : w.heap.size ≤ w3.heap.size := hout3.size
    have HO3 := Lib.hid hown3
    clear hB hown2 hown3
    go_wp2_with (at_builtin; refine wpList_appIx rfl _ _ rfl w.heap.size g n c _ rfl HO3.out _ _ rfl rfl (by omega) hsz3 ?_)
    intro g9 c9 w9 ho9 hg9 hf9
    have hb9 : Below w.heap.size w3 w9 := grownBy_below hg9 hsz3 (fun k hk => by cases hk; exact (HO3.out.lo _ rfl).1)
    have HO9 := Lib.hid ho9
    have HC9 := Lib.hid (hc3.belowAt hb9 hcl)
    have HT9 := Lib.hid (hout3.onBelow hb9)
    clear ho9 hg9 hf9 hb9
    go_wp2
    go_ret
    exact ⟨g9, n + 1, c9, _, rfl, by omega, HO9.out, HC9.out, HT9.out⟩
  · by_cases h1 : x = 1
    · subst h1
      by_cases hnp : 0 < n
      · have hB := l1Below_any cu 11 w2 hc2 (by omega) (by omega)
        rw [upB_pos (by omega)] at hB
        have hnI : (0 : Int) < (n : Int) := by omega
        go_wp2_with fail
        refine hB.mono ?_
        rintro e w3 ⟨y, rfl, hy1, hy2, hc3, ho3⟩
        have hown3 := hown2.outC ho3 hcl
        have hout3 := hout2.trans ho3
        have hsz3 : w.heap.size ≤ w3.heap.size := hout3.size
        have hf := hown3.frozen 0
        obtain ⟨z, hz, _⟩ := hown3.cell hnp
        have hgl := hown3.lo _ rfl
        simp only at hgl
        obtain ⟨_, h2, h3⟩ := hown3.set 0 (y - 1)
        obtain ⟨_, h2', h3'⟩ := hown3.set 0 (y + -1)
        have hb9 : Below w.heap.size w3 (w3.setCell ⟨g, 0, none⟩ (.int .i64 (y - 1))) := grownBy_below h3 hsz3 (fun k hk => by cases hk; exact hgl.1)
        have HO9 := Lib.hid h2
        have HC9 := Lib.hid (hc3.belowAt hb9 hcl)
        have HT9 := Lib.hid (hout3.onBelow hb9)
        clear hB hown2 h2 h3 h2' h3' hb9
        go_wp2
        go_ret
        exact ⟨g, n, c, _, rfl, by omega, HO9.out, HC9.out, HT9.out⟩
      · have hnI : ¬ ((0 : Int) < (n : Int)) := by omega
        go_wp2
        go_ret
        exact ⟨g, n, c, xs, rfl, by omega, hown2, hc2, hout2⟩
    · have e0 : (x == 0) = false := by rw [beq_eq_false_iff_ne]; exact h0
      have e1 : (x == 1) = false := by rw [beq_eq_false_iff_ne]; exact h1
      go_wp2
      go_ret
      exact ⟨g, n, c, xs, rfl, by omega, hown2, hc2, hout2⟩
end Go.Proofs.Ytmojniiimondfaa
