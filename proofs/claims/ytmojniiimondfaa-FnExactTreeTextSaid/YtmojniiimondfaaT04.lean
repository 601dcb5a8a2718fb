/- The reference's Join. Condition: at most 2^42 bytes in all. -/
import Derived.Test.YtmojniiimondfaaT03
import Derived.Lib.AppendStr
namespace Go.Proofs.Ytmojniiimondfaa
open Go.RowKit

def bytesV (l : List UInt8) : List Value := l.map fun b => .int .u8 (b.toNat : Int)
/-- The call's own bytes, at a block. -/
def OwnBs (w : World) (B g n c : Nat) (l : List UInt8) : Prop := l.length = n ∧ w.ownsRow B 5 1 (.slice (some ⟨g, 0, none⟩) n c) n (bytesV l)
theorem OwnBs.below {w w' : World} {B g n c : Nat} {l : List UInt8} (h : OwnBs w B g n c l) (hb : Below w.heap.size w w') : OwnBs w' B g n c l := ⟨h.1, own_below' h.2 hb⟩
theorem OwnBs.lit0 (w : World) : OwnBs (w.alloc (.cells #[] 5)) w.heap.size w.heap.size 0 0 [] :=
  ⟨rfl, by simpa [bytesV] using World.ownsRow_lit (e := 5) (size := 1) (base := w.heap.size) w #[] 0 (Nat.le_refl _) (Nat.zero_le _) rfl⟩
theorem sizeS (s : ByteArray) : s.data.toList.length = s.size := by rw [Array.length_toList]; rfl
/-- 'append(out, s...)', s a string. -/
theorem wpList_appBs {w : World} {ops : Array Oper} {rest : List Oper} {o : Oper} {act : Act} {Q : Exit → Act → World → Prop} (hgd : o.guard = none) (s x : Operand)
    (ho : o.op = .call { callee := .builtin .append, args := #[s, x], argTypes := #[33, 9] })
    (B g n c : Nat) (l : List UInt8) (hs : act.eval s = .slice (some ⟨g, 0, none⟩) n c) (hown : OwnBs w B g n c l) (y : ByteArray) (hx : act.eval x = .string y) (hn : n + y.size ≤ 8796093022208) (hB : B ≤ w.heap.size)
    (h : ∀ g' c' w', OwnBs w' B g' (n + y.size) c' (l ++ y.data.toList) → Below B w w' → wpList Try.prog ops Q rest (act.put o.dst (.slice (some ⟨g', 0, none⟩) (n + y.size) c')) w') :
    wpList Try.prog ops Q (o :: rest) act w := by
  obtain ⟨i0, hi, hz0, hz1, hz2⟩ := info_parts infoByte
  refine Lib.wpList_append_own_string w hgd s x 33 9 ho B 5 i0 Try.underlying33 Try.underlying9 hi hz0 hz1 hz2 _ n _ hs hown.2 y hx (by unfold maxLen; omega) (by omega) hB ?_
  intro v' w' h1 h2 h3
  obtain ⟨a', c', rfl⟩ := own_slice h1
  have hr : ∃ g', a' = some ⟨g', 0, none⟩ := by
    rcases h1.2 with ⟨h4, _⟩ | ⟨g', cap, cur, h4, _⟩
    · exact absurd (h3.1 h4).1 (by simp)
    · simp only [Value.slice.injEq] at h4; exact ⟨g', h4.1⟩
  obtain ⟨g', rfl⟩ := hr
  refine h g' c' w' ⟨by rw [List.length_append, hown.1, sizeS], ?_⟩ (grownBy_below h2 hB fun k hk => (hown.2.lt k hk).1)
  have e : bytesV (l ++ y.data.toList) = bytesV l ++ Lib.strCells y := by unfold bytesV; rw [List.map_append]; rfl
  rw [e]; exact h1
theorem convBs {w : World} {B g n c : Nat} {l : List UInt8} (h : OwnBs w B g n c l) :
    (convert 33 9 (.slice (some ⟨g, 0, none⟩) n c)).run Try.prog w = .ok (.string ⟨l.toArray⟩) w := by
  obtain ⟨h1, h2⟩ := h
  subst h1
  refine run_convert_bytes_back _ _ _ _ _ _ l Try.underlying33 Try.underlying5 Try.underlying9 (fun j hj => ?_)
  rw [Addr.add_lit, Nat.zero_add, h2.cellAt j (by omega)]
  simp [hj, bytesV]

theorem jnS_take_le (by_ : ByteArray) (ss : List ByteArray) (k : Nat) (hk : k ≤ ss.length) : (jnS by_ (ss.take k)).length ≤ by_.size * ss.length + totS ss := by
  have h1 := jnS_len by_ (ss.take k)
  have h2 := totS_take_le ss k
  have h3 : (ss.take k).length ≤ ss.length := by rw [List.length_take]; omega
  have h4 : by_.size * (ss.take k).length ≤ by_.size * ss.length := Nat.mul_le_mul_left _ h3
  omega

set_option maxHeartbeats 1000000 in
theorem spec_Join (a : Option Addr) (n c : Nat) (ss : List ByteArray) (by_ : ByteArray) (w : World) (h : SlS w a n c ss) (hl : by_.size * n + totS ss ≤ 4398046511104) (hb20 : by_.size ≤ 1048576) :
    Calls Try.prog 10 #[.slice a n c, .string by_] w (RetV w (.string ⟨(jnS by_ ss).toArray⟩)) := by
  have HN : Hid (ss.length = n) := h.2.1
  have hnb := h.2.2.1
  have hA := h.1
  have HL : Hid (∀ k, k ≤ n → (jnS by_ (ss.take k)).length ≤ 4398046511104) := fun k hk => Nat.le_trans (jnS_take_le by_ ss k (by rw [HN.out]; exact hk)) (by rw [HN.out]; exact hl)
  have HB : Hid (∀ s ∈ ss, s.size ≤ 4398046511104) := fun s hs => by have := le_totS hs; omega
  obtain ⟨E, hE⟩ : ∃ E, E = jnS by_ ss := ⟨_, rfl⟩
  rw [← hE]
  have HE := Lib.hid hE
  clear h hE hl
  go_enter Try.func10, Try.ntmps10
  go_wp2
  go_loopw [5, 6] (fun ov kv wr => ∃ (k g3 m c3 : Nat), k ≤ n ∧ ov = .slice (some ⟨g3, 0, none⟩) m c3 ∧ kv = .int .i64 k ∧ Hid (OwnBs wr w.heap.size g3 m c3 (jnS by_ (ss.take k))) ∧ m ≤ 4398046511104 ∧ Below w.heap.size w wr) (fun _ kv _ => n - (intOf kv).toNat)
  case atStart => exact ⟨0, _, 0, 0, Nat.zero_le _, rfl, by go_num, OwnBs.lit0 w, by omega, below_alloc _ _⟩
  case round =>
    obtain ⟨k, g3, m, c3, hk, rfl, rfl, HO, hm, hb⟩ := hrel
    by_cases hlt : k < n
    · obtain ⟨ab, ao, s, rfl, hx, HX⟩ := (hA.below hb).at (i := k) (by rw [HN.out]; exact hlt)
      have hss := HB.out s (List.mem_of_getElem? HX.out)
      have hsz := hb.size
      by_cases h0 : k = 0
      · subst h0
        have HJ : Hid (jnS by_ (ss.take 0) ++ s.data.toList = jnS by_ (ss.take (0 + 1))) := by
          show _ = _
          rw [jnS_one HX.out]; simp [jnS, Lib.join_nil]
        have hml := HL.out (0 + 1) (by omega)
        rw [← HJ.out, List.length_append, HO.out.1, sizeS] at hml
        have hnp : ¬ ((0 : Int) < ((0 : Nat) : Int)) := by omega
        rw [Nat.add_zero] at hx
        go_wp2_with (at_builtin; refine wpList_appBs rfl _ _ rfl w.heap.size _ _ _ _ rfl HO.out s rfl (by omega) hsz ?_)
        intro g4 c4 w4 ho4 hb4
        have HO4 : Hid (OwnBs w4 w.heap.size g4 (m + s.size) c4 (jnS by_ (ss.take (0 + 1)))) := by rw [← HJ.out]; exact ho4
        have hbn := hb.trans hb4
        clear ho4 hb4 HJ HO
        go_wp2
        go_roundw
        case rel => exact ⟨0 + 1, g4, m + s.size, c4, by omega, rfl, by go_num, HO4, by omega, hbn⟩
        case measure => simp [intOf]; omega
      · have HJ : Hid (jnS by_ (ss.take k) ++ by_.data.toList ++ s.data.toList = jnS by_ (ss.take (k + 1))) := (jnS_snoc HX.out (by omega)).symm
        have hml := HL.out (k + 1) (by omega)
        rw [← HJ.out, List.length_append, List.length_append, HO.out.1, sizeS, sizeS] at hml
        have hkp : (0 : Int) < (k : Int) := by omega
        go_wp2_with (at_builtin; refine wpList_appBs rfl _ _ rfl w.heap.size _ _ _ _ rfl HO.out by_ rfl (by omega) hsz ?_)
        intro g4 c4 w4 ho4 hb4
        have hx4 : w4.cell? ⟨ab, ao + k, none⟩ = some (.string s) := by
          obtain ⟨ab', ao', s', e1, e2, E3⟩ := (hA.below (hb.trans hb4)).at (i := k) (by rw [HN.out]; exact hlt)
          simp only [Option.some.injEq, Addr.mk.injEq, and_true] at e1
          obtain ⟨rfl, rfl⟩ := e1
          have e4 := E3.out
          rw [HX.out] at e4
          obtain rfl := Option.some.inj e4
          exact e2
        have HO4 := Lib.hid ho4
        have hsz4 : w.heap.size ≤ w4.heap.size := (hb.trans hb4).size
        have hbn4 := hb.trans hb4
        clear ho4 hb4 HO hx hb
        go_wp2_with (at_builtin; refine wpList_appBs rfl _ _ rfl w.heap.size _ _ _ _ rfl HO4.out s rfl (by omega) hsz4 ?_)
        intro g5 c5 w5 ho5 hb5
        have HO5 : Hid (OwnBs w5 w.heap.size g5 (m + by_.size + s.size) c5 (jnS by_ (ss.take (k + 1)))) := by rw [← HJ.out, List.append_assoc]; exact ho5
        have hbn := hbn4.trans hb5
        clear ho5 hb5 HJ HO4 hbn4
        go_wp2
        go_roundw
        case rel => exact ⟨k + 1, g5, m + by_.size + s.size, c5, by omega, rfl, by go_num, HO5, by omega, hbn⟩
        case measure => simp [intOf]; omega
    · obtain rfl : k = n := by omega
      have HF : Hid (OwnBs wr w.heap.size g3 m c3 E) := by
        have h1 := HO.out
        rwa [List.take_of_length_le (by rw [HN.out]; exact Nat.le_refl _), ← HE.out] at h1
      have hcv := convBs HF.out
      clear HO
      go_wp2
      go_ret
      exact ⟨rfl, hb⟩
end Go.Proofs.Ytmojniiimondfaa
