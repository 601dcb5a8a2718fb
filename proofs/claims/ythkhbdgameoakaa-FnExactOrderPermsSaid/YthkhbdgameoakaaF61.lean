/- slices.Delete of one place of the call's own slice of integers; the pattern without a place, of the program. Conditions: as the names say. -/
import Derived.Test.YthkhbdgameoakaaF45
import Derived.Test.YthkhbdgameoakaaF06
import Derived.Lib.OwnBridge
import Derived.Lib.SlicesDelete
import Derived.Sort.WalkB12
import Derived.Lib.SliceRun
import Derived.Lib.Walk
import Derived.Deep.LoopGhost
namespace Go.Proofs.Ythkhbdgameoakaa
open Go.RowKit Go.Lib Go.Sort

set_option maxHeartbeats 4000000 in
set_option maxRecDepth 1000000 in
theorem slicesDelete_arr (blk cap i j : Nat) (d : Array Int) (w : World) (hH : Holds (Value.int .i64) w blk 0 d) (hcap : d.size ≤ cap) (hm : cap ≤ 9223372036854775807) (hlt : i < j) (hj : j ≤ d.size) :
    Calls Try.prog 141 #[.slice (some ⟨blk, 0, none⟩) d.size cap, .int .i64 (i : Int), .int .i64 (j : Int)] w fun e w' => e = .returned (.slice (some ⟨blk, 0, none⟩) (d.size - (j - i)) cap) ∧ ∃ q, w' = putRow (Value.int .i64) (Sort.ahead w q) blk 0 (d.toList.take i ++ d.toList.drop j ++ List.replicate (j - i) 0).toArray := by
  obtain ⟨i0, hi0, hz0, hz1, hz2⟩ := info_parts infoInt
  obtain ⟨news, hnews⟩ : ∃ news, news = (d.toList.drop j).map (Value.int .i64) := ⟨_, rfl⟩
  have hlen : news.length = d.size - j := by rw [hnews]; simp
  have hget : ∀ t, t < d.size - j → news[t]? = some (Value.int .i64 d[j + t]!) := by
    intro t ht
    rw [hnews, List.getElem?_map, List.getElem?_drop, Array.getElem?_toList, getElem!_pos d (j + t) (by omega), Array.getElem?_eq_getElem (by omega)]
    rfl
  obtain ⟨A, hA, hsrc⟩ : ∃ A : Addr, (if cap = j then some (⟨blk, 0, none⟩ : Addr) else some ⟨blk, j, none⟩) = some A ∧ Hid (∀ t u, news[t]? = some u → w.drew.cell? (A.add t) = some u) := by
    by_cases h : cap = j
    · refine ⟨⟨blk, 0, none⟩, by simp [h], fun t u hu => ?_⟩
      have h0 : news.length = 0 := by rw [hlen]; omega
      rw [List.length_eq_zero_iff.1 h0] at hu
      simp at hu
    · refine ⟨⟨blk, j, none⟩, by simp [h], fun t u hu => ?_⟩
      have ht : t < d.size - j := by
        have := (List.getElem?_eq_some_iff.1 hu).1
        rwa [hlen] at this
      rw [hget t ht] at hu
      rw [Addr.add_lit]
      have := (hH (j + t) (by omega)).1
      rw [Nat.zero_add] at this
      exact this.trans hu
  have s1 : Hid (news.length = (d.size - j) * 1) := by rw [Nat.mul_one]; exact hlen
  have s2 : Hid (∀ u ∈ news, u.oneCell' = true) := by
    intro u hu
    rw [hnews] at hu
    obtain ⟨x, _, rfl⟩ := List.mem_map.1 hu
    rfl
  have s3 : Hid (∀ t, t < news.length → (w.drew.cell? ⟨blk, 0 + i * 1 + t, none⟩).isSome = true ∧ w.drew.frozen? ⟨blk, 0 + i * 1 + t, none⟩ = false) := by
    intro t ht
    rw [hlen] at ht
    rw [Nat.mul_one, Nat.add_assoc]
    exact ⟨by show (w.cell? _).isSome = true; rw [(hH (i + t) (by omega)).1]; rfl, (hH (i + t) (by omega)).2⟩
  obtain ⟨W1, hW1⟩ : ∃ W1, W1 = w.drew.setCells blk (0 + i * 1) news := ⟨_, rfl⟩
  have hW1' : W1 = putRow (Value.int .i64) (Sort.ahead w 1) blk 0 (lay d i (d.toList.drop j)) := by
    rw [hW1, hnews, Nat.mul_one, ← putRow_setCells (Value.int .i64) (Sort.ahead w 1) blk 0 _ d i (by simp; omega), putRow_self (Value.int .i64) (Sort.ahead w 1) blk 0 d (holds_ahead (Value.int .i64) w 1 blk 0 d hH)]
    rfl
  have hH1 : Holds (Value.int .i64) W1 blk 0 (lay d i (d.toList.drop j)) := by rw [hW1']; exact holds_putRow (Value.int .i64) _ blk 0 d _ (holds_ahead (Value.int .i64) w 1 blk 0 d hH) (lay_size _ _ _)
  have hcl : ∀ ty, (Builtin.clear_ #[22] ty #[.slice (some ⟨blk, (i + (d.size - j)), none⟩) (d.size - (i + (d.size - j))) (cap - (i + (d.size - j)))]).run Try.prog W1 = .ok (.tuple #[]) (W1.setCells blk (i + (d.size - j)) (List.replicate (d.size - (i + (d.size - j))) (Value.int .i64 0))) :=
    fun ty => Lib.run_clear_slice W1 _ _ ty _ Try.underlying22 Try.zeroValue3 rfl rfl blk (i + (d.size - j)) _ _ (by omega) (fun t ht => by have := (hH1 (i + (d.size - j) + t) (by rw [lay_size]; omega)).1; rw [Nat.zero_add] at this; rw [this]; rfl) (fun t ht => by have := (hH1 (i + (d.size - j) + t) (by rw [lay_size]; omega)).2; rw [Nat.zero_add] at this; exact this)
  have X : Aside (W1 = putRow (Value.int .i64) (Sort.ahead w 1) blk 0 (lay d i (d.toList.drop j))) := hW1'
  have hW : Hid (W1 = w.drew.setCells blk (0 + i * 1) news) := hW1
  have hic : i ≤ cap := by omega
  have hjc : j ≤ cap := by omega
  clear hW1 hW1' hH1 hH hget hnews hlen
  go_enter Try.func141, Try.ntmps141
  go_wp2_with fail
  go_region_law (refine step_append_room rfl (.tmp 22) (.tmp 25) 22 rfl 3 i0 1 Try.underlying22 hi0 hz1 blk 0 i cap (by simp [Act.eval, Act.put]) A (d.size - j) (cap - j) news (by simp [Act.eval, Act.put]) s1.out hsrc.out s2.out (by omega) s3.out ?_; rw [← hW.out])
  go_wp2
  go_ret
  refine ⟨by rw [show d.size - (j - i) = i + (d.size - j) by omega]; rfl, 1, ?_⟩
  rw [← delete_arr d i j 0 (by omega) hj, ← putRow_setCells (Value.int .i64) _ blk 0 _ _ (i + (d.size - j)) (by rw [lay_size]; simp; omega), ← X.out, List.map_replicate, show d.size - (i + (d.size - j)) = j - i by omega, Nat.zero_add]

theorem slicesDelete_own (a : Option Addr) (n c B k : Nat) (xs : List Int) (w : World) (h : OwnI w B a n c xs) (hk : k < n) (hnb : n ≤ 2097152) :
    Calls Try.prog 141 #[.slice a n c, .int .i64 (k : Int), .int .i64 ((k : Int) + 1)] w fun e w' => ∃ a' n' c', e = .returned (.slice a' n' c') ∧ n' ≤ n ∧ OwnI w' B a' n' c' (xs.take k ++ xs.drop (k + 1)) ∧ w.grownBy w' (Value.slice a n c).ownBlock := by
  obtain ⟨g, cap, hv, hg1, hg2, hg3, hg4, hlen, hH⟩ := Go.Lib.holds_of_ownsRow h.2 (by
    intro e
    obtain ⟨g, rfl, _, _⟩ := h.head (by omega)
    simp at e)
  simp only [Value.slice.injEq, true_and] at hv
  obtain ⟨rfl, rfl⟩ := hv
  unfold maxLen at hg4
  have hD := slicesDelete_arr g c k (k + 1) xs.toArray w hH (by simp; omega) (by omega) (by omega) (by simp; omega)
  have hsz : xs.toArray.size = n := by simpa using hlen
  rw [hsz, show ((k + 1 : Nat) : Int) = (k : Int) + 1 from by omega] at hD
  refine hD.mono ?_
  rintro e w' ⟨rfl, q, rfl⟩
  have hl2 : (xs.take k ++ xs.drop (k + 1)).length = n - 1 := by rw [List.length_append, List.length_take, List.length_drop]; omega
  have hy : (xs.take k ++ xs.drop (k + 1) ++ List.replicate (k + 1 - k) 0).length = n := by rw [List.length_append, hl2, List.length_replicate]; omega
  have h1 := Go.Lib.ownsRow_putRow (q := q) (k := n - 1) h.2 (ys := xs.take k ++ xs.drop (k + 1) ++ List.replicate (k + 1 - k) 0) hy (by omega)
  have e1 : (xs.take k ++ xs.drop (k + 1) ++ List.replicate (k + 1 - k) 0).take (n - 1) = xs.take k ++ xs.drop (k + 1) := by
    rw [List.take_append_of_le_length (by omega), List.take_of_length_le (by omega)]
  rw [e1] at h1
  refine ⟨_, _, _, rfl, by omega, ⟨by rw [hl2]; omega, ?_⟩, ?_⟩
  · rw [show n - (k + 1 - k) = n - 1 by omega]; exact h1
  · refine ⟨rfl, rfl, rfl, by simp [putRow, mapBlock, Sort.ahead], fun j hj hne => ?_⟩
    have hne' : g ≠ j := fun e => hne (by rw [← e]; rfl)
    simp [putRow, mapBlock, Sort.ahead, Array.getElem?_modify, hne']

set_option maxHeartbeats 600000 in
theorem without_any (a : Option Addr) (n c k : Nat) (xs : List Int) (w : World) (h : SlI w a n c xs) (hk : k < n) (h8 : n ≤ 1048576) :
    Calls Try.prog 120 #[.slice a n c, .int .i64 (k : Int)] w (RetI w (wo xs k)) := by
  have HN : Hid (xs.length = n) := h.2.1
  go_enter Try.func120, Try.ntmps120
  go_wp2_with fail
  refine (slicesClone_any a n c xs _ h).mono ?_
  rintro e w1 ⟨a1, n1, c1, rfl, ho1, hb1⟩
  obtain rfl : n1 = n := by have h1 := ho1.1; have h2 := HN.out; omega
  go_wp2_with fail
  refine (slicesDelete_own a1 n1 c1 _ k xs _ ho1 hk (by omega)).mono ?_
  rintro e w2 ⟨a2, n2, c2, rfl, hn2, ho2, hg2⟩
  have hb2 : Below w.heap.size w w2 := hb1.trans (grownBy_below hg2 hb1.size (fun j hj => (ho1.2.lt j hj).1))
  go_wp2_with fail
  refine (pattern_any a2 n2 c2 _ _ (ho2.sl (by omega))).mono ?_
  rintro e w3 ⟨a3, n3, c3, rfl, ho3, hb3⟩
  go_wp2
  go_ret
  exact ⟨_, _, _, rfl, ho3.mono hb2.size, hb2.trans (hb3.mono hb2.size)⟩

/-- WithoutPlace -/
def WpOk (xs : List Int) (k : Int) : Prop := Perm8 xs ∧ 1 ≤ k ∧ k ≤ (xs.length : Int)
instance (xs : List Int) (k : Int) : Decidable (WpOk xs k) := inferInstanceAs (Decidable (_ ∧ _))
def wopP (xs : List Int) (k : Int) : List Int := if WpOk xs k then wo xs (k.toNat - 1) else []
theorem length_wopP (xs : List Int) (k : Int) : (wopP xs k).length ≤ 8 := by
  unfold wopP; split
  · rename_i h
    unfold wo; rw [length_pat, List.length_append, List.length_take, List.length_drop]; have := h.1.1; omega
  · simp

end Go.Proofs.Ythkhbdgameoakaa
