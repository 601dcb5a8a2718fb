/- The joining of texts, of the program and of the reference; the laws' helpers on slices of strings. Conditions: as the names say. -/
import Derived.Test.YtmojniiimondfaaT01
import Derived.Test.YtmojniiimondfaaS02
import Derived.Test.YtmojniiimondfaaShJ
import Derived.SliceStrings
import Derived.Test.YtmojniiimondfaaFrame
namespace Go.Proofs.Ytmojniiimondfaa
open Go.RowKit Go.Shelf

/-- How many strings and bytes. -/
def totS : List ByteArray → Nat
  | [] => 0
  | s :: r => s.size + totS r
theorem totS_append (a b : List ByteArray) : totS (a ++ b) = totS a + totS b := by
  induction a with
  | nil => simp [totS]
  | cons r rs ih => simp only [List.cons_append, totS, ih]; omega
theorem totS_take_le (ss : List ByteArray) (k : Nat) : totS (ss.take k) ≤ totS ss := by
  have h := totS_append (ss.take k) (ss.drop k)
  rw [List.take_append_drop] at h; omega
theorem totS_snoc {ss : List ByteArray} {k : Nat} {s : ByteArray} (h : ss[k]? = some s) : totS (ss.take (k + 1)) = totS (ss.take k) + s.size := by
  rw [take_snoc h, totS_append]; simp [totS]
theorem le_totS {ss : List ByteArray} {s : ByteArray} (h : s ∈ ss) : s.size ≤ totS ss := by
  induction ss with
  | nil => cases h
  | cons r rs ih =>
    simp only [totS]
    rcases List.mem_cons.1 h with rfl | h
    · omega
    · have := ih h; omega
/-- The texts with another one between them. -/
def jnS (by_ : ByteArray) (ss : List ByteArray) : List UInt8 := Lib.join (ss.map (·.data.toList)) by_.data.toList
theorem join_snoc (xs : List (List UInt8)) (y sep : List UInt8) (h : xs ≠ []) : Lib.join (xs ++ [y]) sep = Lib.join xs sep ++ sep ++ y := by
  cases xs with
  | nil => exact absurd rfl h
  | cons x r =>
    rw [List.cons_append, Lib.join_cons, Lib.join_cons]
    simp [Lib.joinTail, List.append_assoc]
theorem jnS_snoc {by_ : ByteArray} {ss : List ByteArray} {k : Nat} {s : ByteArray} (h : ss[k]? = some s) (hk : 0 < k) : jnS by_ (ss.take (k + 1)) = jnS by_ (ss.take k) ++ by_.data.toList ++ s.data.toList := by
  unfold jnS
  rw [take_snoc h, List.map_append, List.map_cons, List.map_nil]
  refine join_snoc _ _ _ (fun e => ?_)
  have h1 := congrArg List.length e
  have h2 := (List.getElem?_eq_some_iff.1 h).1
  rw [List.length_map, List.length_take, Nat.min_eq_left (by omega), List.length_nil] at h1
  omega
theorem jnS_one {by_ : ByteArray} {ss : List ByteArray} {s : ByteArray} (h : ss[0]? = some s) : jnS by_ (ss.take 1) = s.data.toList := by
  unfold jnS
  rw [take_snoc h]; simp [Lib.join_one]
theorem jnS_len (by_ : ByteArray) (ss : List ByteArray) : (jnS by_ ss).length ≤ by_.size * ss.length + totS ss := by
  have e : ∀ l : List ByteArray, Lib.lens (l.map (·.data.toList)) = totS l := by
    intro l
    induction l with
    | nil => rfl
    | cons a r ih =>
      have : a.data.toList.length = a.size := by rw [Array.length_toList]; rfl
      simp only [Lib.lens, List.map_cons, List.sum_cons, totS] at ih ⊢
      rw [ih, this]
  unfold jnS
  cases ss with
  | nil => simp [Lib.join_nil]
  | cons x r =>
    have h1 : by_.data.toList.length = by_.size := by rw [Array.length_toList]; rfl
    have h2 : x.data.toList.length = x.size := by rw [Array.length_toList]; rfl
    rw [List.map_cons, Lib.join_cons, List.length_append, Lib.joinTail_length, e, List.length_map, h1, h2, List.length_cons, Nat.mul_succ]
    simp only [totS]; omega

/-- The program's Join. -/
theorem join_any (a : Option Addr) (n c : Nat) (ss : List ByteArray) (by_ : ByteArray) (w : World) (h : SlS w a n c ss) (hl : (jnS by_ ss).length ≤ 281474976710656) :
    Calls Try.prog 60 #[.slice a n c, .string by_] w (RetV w (.string ⟨(jnS by_ ss).toArray⟩)) := by
  obtain ⟨h1, h2, h3, h4⟩ := h
  subst h2
  by_cases h0 : ss = []
  · subst h0
    have hcon := Any.strings_Join_none (P := Try.prog) Try.lays156 Try.Builder_Extra_156 a c by_ w
    change Calls Try.prog 60 _ _ _ at hcon
    refine hcon.mono ?_
    rintro e w' ⟨rfl, rfl⟩
    exact ⟨rfl, Below.refl _ _⟩
  · obtain ⟨x, hx⟩ : ∃ x, ss[0]? = some x := by cases ss with | nil => exact absurd rfl h0 | cons x r => exact ⟨x, rfl⟩
    obtain ⟨b, o, rfl, hc⟩ := h1 0 x hx
    have hcon := Any.strings_Join_48 (P := Try.prog) Try.lays156 Try.Builder_Extra_156 b o c ss by_ w (fun j x hj => by
      obtain ⟨b', o', e1, e2⟩ := h1 j x hj
      simp only [Option.some.injEq, Addr.mk.injEq, and_true] at e1
      obtain ⟨rfl, rfl⟩ := e1
      exact e2) (World.block_lt_of_cell? w ⟨b, o + 0, none⟩ hc) (by omega) h4 hl
    change Calls Try.prog 60 _ _ _ at hcon
    refine hcon.mono ?_
    rintro e w' ⟨rfl, hb⟩
    exact ⟨rfl, hb⟩
theorem impl_Join (a : Option Addr) (n c : Nat) (ss : List ByteArray) (by_ : ByteArray) (w : World) (h : SlS w a n c ss) (hl : (jnS by_ ss).length ≤ 281474976710656) :
    Calls Try.prog 12 #[.slice a n c, .string by_] w (RetV w (.string ⟨(jnS by_ ss).toArray⟩)) := by
  have hC := join_any a n c ss by_ w h hl
  generalize jnS by_ ss = L at hC ⊢
  go_enter Try.func12, Try.ntmps12
  go_wp2_with fail
  refine hC.mono ?_
  rintro e w1 ⟨rfl, hb1⟩
  go_wp2
  go_ret
  exact ⟨rfl, hb1⟩

set_option maxHeartbeats 400000 in
theorem toStringS_any (a : Option Addr) (n c : Nat) (ss : List ByteArray) (w : World) (ha : SlS w a n c ss) :
    Calls Try.prog 11 #[.slice a n c] w (RetSs w ss) := by
  have HN : Hid (ss.length = n) := ha.2.1
  have hnb := ha.2.2.1
  have hA := ha.1
  clear ha
  go_enter Try.func11, Try.ntmps11
  go_wp2_with (at_make; refine wpList_mk1 rfl _ _ 22 rfl 9 (.string ⟨#[]⟩) 16 Try.underlying22 infoStr rfl _ _ n rfl rfl (by omega) (by omega) ?_)
  intro w1 h1 hb1
  go_wp2
  go_loopw [4] (fun i wr => ∃ k : Nat, k ≤ n ∧ i = .int .i64 k ∧ OwnS wr w.heap.size (some ⟨w.heap.size, 0, none⟩) n n (ss.take k ++ List.replicate (n - k) ⟨#[]⟩) ∧ Below w.heap.size w wr) (fun i _ => n - (intOf i).toNat)
  case atStart => exact ⟨0, Nat.zero_le _, rfl, ⟨by simp, by simpa using h1⟩, hb1⟩
  case round =>
    obtain ⟨k, hk, rfl, ho, hb⟩ := hrel
    by_cases hlt : k < n
    · obtain ⟨ab, ao, x, rfl, hx, HX⟩ := (hA.below hb).at (i := k) (by rw [HN.out]; exact hlt)
      have hf := ho.frozen k
      obtain ⟨y, hy, _⟩ := ho.cell hlt
      go_wp2
      go_roundw
      case rel =>
        obtain ⟨_, h2, h3⟩ := ho.set k x
        refine ⟨k + 1, by omega, by go_num, ?_, hb.trans (grownBy_below h3 hb.size (by simp))⟩
        have e : (ss.take k ++ List.replicate (n - k) (⟨#[]⟩ : ByteArray)).set k x = ss.take (k + 1) ++ List.replicate (n - (k + 1)) (⟨#[]⟩ : ByteArray) := by
          have hl : (ss.take k).length = k := by rw [List.length_take, HN.out, Nat.min_eq_left hk]
          rw [take_snoc HX.out, List.set_append_right _ _ (by omega), hl, Nat.sub_self, show n - k = (n - (k + 1)) + 1 by omega, List.replicate_succ]
          simp
        rw [e] at h2; exact h2
      case measure => simp [intOf]; omega
    · obtain rfl : k = n := by omega
      have ho' : OwnS wr w.heap.size (some ⟨w.heap.size, 0, none⟩) k k ss := by
        have e : ss.take k ++ List.replicate (k - k) (⟨#[]⟩ : ByteArray) = ss := by
          rw [Nat.sub_self, List.take_of_length_le (by rw [HN.out]; exact Nat.le_refl _)]; simp
        rw [e] at ho; exact ho
      go_wp2
      go_ret
      exact ⟨_, _, _, rfl, ho', hb⟩

/-- A slice of strings that came in. -/
def InStrings (w : World) (a : Option Addr) (n c : Nat) (ss : List ByteArray) : Prop := Strs w a ss ∧ ss.length = n ∧ n ≤ c ∧ c ≤ maxLen ∧ ∀ s ∈ ss, s.size ≤ maxLen
open Go.ChangeShapes in
theorem opened_strings {H : Type} {enc : TypeId × Value → H} {w : World} {base : Nat} {held : Bool} {fuel : Nat} {a : Option Addr} {n c : Nat} {x : DataW H × List MemPlace}
    (h : DataW.trod enc Try.prog w base (fun _ => true) held fuel 22 (Value.slice a n c).cells.toList = some x) :
    ∃ ss, InStrings w a n c ss := by
  rcases open_strings Try.underlying22 Try.underlying9 (by kernel_rfl) h with ⟨hcs, _⟩ | ⟨p, l, c', zs, hcs, _, hl, hm, hz, _, hcell, hsz⟩
  · simp [Value.cells] at hcs
    obtain ⟨rfl, rfl, rfl⟩ := hcs
    exact ⟨[], by intro i s hs; simp at hs, rfl, Nat.le_refl _, by unfold maxLen; omega, by simp⟩
  · simp [Value.cells] at hcs
    obtain ⟨rfl, rfl, rfl⟩ := hcs
    have hz' : zs.length = c := by simpa using hz
    refine ⟨zs.take n, ?_, by rw [List.length_take, hz']; omega, hl, hm, fun s hs => hsz s (List.mem_of_mem_take hs)⟩
    intro i v hv
    have hi : i < n := by
      have := (List.getElem?_eq_some_iff.1 hv).1
      rw [List.length_take] at this; omega
    rw [List.getElem?_take_of_lt hi] at hv
    have hc := hcell i (by rw [hz']; omega)
    obtain ⟨b, o, spot⟩ := p
    obtain rfl : spot = none := by
      by_cases h0 : i = 0
      · subst h0; simpa [Addr.add] using World.cell?_spot hc
      · have hc0 := hcell 0 (by rw [hz']; omega)
        simpa [Addr.add] using World.cell?_spot hc0
    refine ⟨b, o, rfl, ?_⟩
    rw [Addr.add_lit] at hc
    rw [hc]; simp [List.getD, hv]

set_option maxHeartbeats 600000 in
theorem szStringS_any (a : Option Addr) (n c : Nat) (ss : List ByteArray) (left : Int) (w : World) (ha : InStrings w a n c ss) (h0 : 0 ≤ left) (h1 : left ≤ 1048576) :
    Calls Try.prog 9 #[.slice a n c, .int .i64 left] w fun e w' => ∃ z : Int, e = .returned (.int .i64 z) ∧ w' = w ∧ -1 ≤ z ∧ z ≤ 1048576 ∧ (z < 0 ∨ (n : Int) + (totS ss : Int) + z = left) := by
  have HN : Hid (ss.length = n) := ha.2.1
  have hnm : n ≤ maxLen := Nat.le_trans ha.2.2.1 ha.2.2.2.1
  have HS : Hid (∀ s ∈ ss, s.size ≤ maxLen) := ha.2.2.2.2
  have hA := ha.1
  clear ha
  unfold maxLen at hnm
  by_cases hn : left - (n : Int) < 0
  · go_enter Try.func9, Try.ntmps9
    go_wp2
    go_ret
    exact ⟨_, rfl, rfl, by omega, by omega, .inl (by omega)⟩
  · go_enter Try.func9, Try.ntmps9
    go_wp2
    go_loop [1, 5] (fun lv i => ∃ (k : Nat) (z : Int), k ≤ n ∧ i = .int .i64 k ∧ lv = .int .i64 z ∧ 0 ≤ z ∧ z ≤ 1048576 ∧ Hid ((n : Int) + (totS (ss.take k) : Int) + z = left)) (fun _ i => n - (intOf i).toNat)
    case atStart => exact ⟨0, left - (n : Int), Nat.zero_le _, rfl, rfl, by omega, by omega, by show _ = _; simp [totS]; omega⟩
    case round =>
      obtain ⟨k, z, hk, rfl, rfl, hz0, hz1, HZ⟩ := hrel
      by_cases hlt : k < n
      · obtain ⟨ab, ao, x, rfl, hx, HX⟩ := hA.at (i := k) (by rw [HN.out]; exact hlt)
        have hxs := HS.out x (List.mem_of_getElem? HX.out)
        unfold maxLen at hxs
        have Hs : Hid (totS (ss.take (k + 1)) = totS (ss.take k) + x.size) := totS_snoc HX.out
        by_cases hneg : z - (x.size : Int) < 0
        · go_wp2
          go_ret
          exact ⟨_, rfl, rfl, by omega, by omega, .inl (by omega)⟩
        · have HZ' : Hid ((n : Int) + (totS (ss.take (k + 1)) : Int) + (z - (x.size : Int)) = left) := by
            have h1 := HZ.out; have h2 := Hs.out
            show _ = _
            rw [h2]; omega
          go_wp2
          go_round
          case rel => exact ⟨k + 1, z - (x.size : Int), by omega, by go_num, by go_num, by omega, by omega, HZ'⟩
          case measure => simp [intOf]; omega
      · obtain rfl : k = n := by omega
        have e : ss.take k = ss := List.take_of_length_le (by rw [HN.out]; exact Nat.le_refl _)
        have hZ := HZ.out
        rw [e] at hZ
        have HZ' := Lib.hid hZ
        clear hZ
        go_wp2
        go_ret
        exact ⟨z, rfl, rfl, by omega, hz1, .inr HZ'.out⟩
end Go.Proofs.Ytmojniiimondfaa
