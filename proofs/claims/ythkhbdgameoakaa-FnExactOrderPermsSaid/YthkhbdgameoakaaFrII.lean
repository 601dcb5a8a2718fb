/- How a slice of slices of integers that came in reads; the laws' guard on its size. No condition. -/
import Derived.Test.YthkhbdgameoakaaFrame
import Derived.Test.YthkhbdgameoakaaF23
import Derived.Deep.Matrix
namespace Go.Proofs.Ythkhbdgameoakaa
open Go.ChangeShapes Go.WideShapes Go.ChangeAt Go.RowKit

/-- A slice of slices of integers that came in. -/
def InIntss (w : World) (a : Option Addr) (n c : Nat) (xss : List (List Int)) : Prop :=
  (∀ i xs, xss[i]? = some xs → ∃ b o r, a = some ⟨b, o, none⟩ ∧ w.cell? ⟨b, o + i, none⟩ = some (sl3 r) ∧ InInts w r.1 r.2.1 r.2.2 xs) ∧ xss.length = n ∧ n ≤ c ∧ c ≤ maxLen
theorem opened_intss {H : Type} {enc : TypeId × Value → H} {w : World} {base : Nat} {held : Bool} {fuel : Nat} {a : Option Addr} {n c : Nat} {x : DataW H × List MemPlace}
    (h : DataW.trod enc Try.prog w base (fun _ => true) held fuel 23 (Value.slice a n c).cells.toList = some x) :
    ∃ xss, InIntss w a n c xss := by
  rcases Go.Deep.open_int_rows Try.underlying23 Try.underlying22 Try.underlying3 (by kernel_rfl) (by kernel_rfl) h with ⟨hcs, _⟩ | ⟨p, l, c', A, L, C, Z, hcs, _, hl, hm, _, hrow⟩
  · simp [Value.cells] at hcs
    obtain ⟨rfl, rfl, rfl⟩ := hcs
    exact ⟨[], fun i xs hx => by simp at hx, rfl, Nat.le_refl _, by unfold maxLen; omega⟩
  · simp [Value.cells] at hcs
    obtain ⟨rfl, rfl, rfl⟩ := hcs
    refine ⟨(List.range n).map fun r => (Z r).take (L r), fun i xs hx => ?_, by simp, hl, hm⟩
    have hi : i < n := by
      have := (List.getElem?_eq_some_iff.1 hx).1
      simpa using this
    obtain ⟨hc1, hLC, hCm, hZ, _, hnone, hcell⟩ := hrow i (by omega)
    have hx' : xs = (Z i).take (L i) := by
      simp [hi] at hx; exact hx.symm
    obtain ⟨b, o, spot⟩ := p
    obtain rfl : spot = none := by
      have hc0 := (hrow 0 (by omega)).1
      simpa [Addr.add] using World.cell?_spot hc0
    refine ⟨b, o, (A i, L i, C i), rfl, ?_, ?_⟩
    · rw [Addr.add_lit] at hc1; exact hc1
    · subst hx'
      refine ⟨?_, by rw [List.length_take, hZ]; exact Nat.min_eq_left hLC, hLC, hCm, hnone⟩
      intro j v hv
      have hj : j < L i := by
        have := (List.getElem?_eq_some_iff.1 hv).1
        rw [List.length_take] at this; omega
      rw [List.getElem?_take_of_lt hj] at hv
      cases hA : A i with
      | none => have := hnone hA; omega
      | some q =>
        obtain ⟨_, hq⟩ := hcell q hA
        have hcj := hq j (by omega)
        obtain ⟨qb, qo, qs⟩ := q
        obtain rfl : qs = none := by
          have h0 := hq 0 (by omega)
          simpa [Addr.add] using World.cell?_spot h0
        refine ⟨qb, qo, rfl, ?_⟩
        rw [Addr.add_lit] at hcj
        rw [hcj]; simp [List.getD, hv]
theorem InIntss.at {w : World} {a : Option Addr} {n c : Nat} {xss : List (List Int)} (h : InIntss w a n c xss) {i : Nat} (hi : i < n) :
    ∃ b o ra rn rc xs, a = some ⟨b, o, none⟩ ∧ w.cell? ⟨b, o + i, none⟩ = some (.slice ra rn rc) ∧ InInts w ra rn rc xs ∧ Hid (xss[i]? = some xs) := by
  have hx : xss[i]? = some _ := List.getElem?_eq_getElem (by rw [h.2.1]; exact hi)
  obtain ⟨b, o, r, h1, h2, h3⟩ := h.1 i _ hx
  exact ⟨b, o, r.1, r.2.1, r.2.2, _, h1, h2, h3, hx⟩
theorem InIntss.iis {w : World} {a : Option Addr} {n c : Nat} {xss : List (List Int)} (h : InIntss w a n c xss) (hn : n + totL xss ≤ 2097152) : IIs w a n c xss := by
  refine ⟨fun i xs hx => ?_, h.2.1, by omega, h.2.2.1⟩
  obtain ⟨b, o, r, h1, h2, h3⟩ := h.1 i xs hx
  have := le_totL (List.mem_of_getElem? hx)
  exact ⟨b, o, r, h1, h2, h3.1, h3.2.1, by rw [← h3.2.1]; omega, h3.2.2.1, h3.2.2.2.2⟩

set_option maxHeartbeats 400000 in
theorem szIntS_any (a : Option Addr) (n c : Nat) (left : Int) (w : World) (_hn : n ≤ maxLen) (_h0 : 0 ≤ left) (_h1 : left ≤ 1048576) :
    Calls Try.prog 78 #[.slice a n c, .int .i64 left] w fun e w' => e = .returned (.int .i64 (if left - (n : Int) < 0 then -1 else left - (n : Int))) ∧ w' = w := by
  unfold maxLen at _hn
  by_cases h : left - (n : Int) < 0
  · rw [if_pos h]
    go_enter Try.func78, Try.ntmps78
    go_wp2
    go_ret
    exact ⟨rfl, rfl⟩
  · rw [if_neg h]
    go_enter Try.func78, Try.ntmps78
    go_wp2
    go_ret
    exact ⟨rfl, rfl⟩

set_option maxHeartbeats 600000 in
theorem szIntSS_any (a : Option Addr) (n c : Nat) (xss : List (List Int)) (left : Int) (w : World) (ha : InIntss w a n c xss) (h0 : 0 ≤ left) (h1 : left ≤ 1048576) :
    Calls Try.prog 21 #[.slice a n c, .int .i64 left] w fun e w' => ∃ z : Int, e = .returned (.int .i64 z) ∧ w' = w ∧ -1 ≤ z ∧ z ≤ 1048576 ∧ (z < 0 ∨ (n : Int) + (totL xss : Int) + z = left) := by
  have HN : Hid (xss.length = n) := ha.2.1
  have hnm : n ≤ maxLen := Nat.le_trans ha.2.2.1 ha.2.2.2
  unfold maxLen at hnm
  by_cases hn : left - (n : Int) < 0
  · go_enter Try.func21, Try.ntmps21
    go_wp2
    go_ret
    exact ⟨_, rfl, rfl, by omega, by omega, .inl (by omega)⟩
  · go_enter Try.func21, Try.ntmps21
    go_wp2
    go_loop [1, 5] (fun lv i => ∃ (k : Nat) (z : Int), k ≤ n ∧ i = .int .i64 k ∧ lv = .int .i64 z ∧ 0 ≤ z ∧ z ≤ 1048576 ∧ Hid ((n : Int) + (totL (xss.take k) : Int) + z = left)) (fun _ i => n - (intOf i).toNat)
    case atStart => exact ⟨0, left - (n : Int), Nat.zero_le _, rfl, rfl, by omega, by omega, by show _ = _; simp [totL]; omega⟩
    case round =>
      obtain ⟨k, z, hk, rfl, rfl, hz0, hz1, HZ⟩ := hrel
      by_cases hlt : k < n
      · obtain ⟨ab, ao, ra, rn, rc, xs, rfl, hx, hr, HX⟩ := ha.at hlt
        have Hs : Hid (totL (xss.take (k + 1)) = totL (xss.take k) + rn) := by show _ = _; rw [totL_snoc HX.out, hr.2.1]
        have hrm : rn ≤ maxLen := Nat.le_trans hr.2.2.1 hr.2.2.2.1
        have hC := szIntS_any ra rn rc z w hrm hz0 hz1
        clear hr
        by_cases hneg : z - (rn : Int) < 0
        · rw [if_pos hneg] at hC
          clear hneg hrm
          go_wp2_with fail
          refine hC.mono ?_
          rintro e w1 ⟨rfl, hw1⟩
          obtain rfl : w = w1 := hw1.symm
          go_wp2
          go_ret
          exact ⟨_, rfl, rfl, by omega, by omega, .inl (by omega)⟩
        · rw [if_neg hneg] at hC
          have hz' : 0 ≤ z - (rn : Int) := by omega
          have HZ' : Hid ((n : Int) + (totL (xss.take (k + 1)) : Int) + (z - (rn : Int)) = left) := by
            have h1 := HZ.out; have h2 := Hs.out
            show _ = _
            rw [h2]; omega
          clear hrm
          go_wp2_with fail
          refine hC.mono ?_
          rintro e w1 ⟨rfl, hw1⟩
          obtain rfl : w = w1 := hw1.symm
          clear hC
          go_wp2
          go_round
          case rel => exact ⟨k + 1, z - (rn : Int), by omega, by go_num, rfl, by omega, by omega, HZ'⟩
          case measure => simp [intOf]; omega
      · have hkn : k = n := by omega
        subst hkn
        have HT : Hid ((k : Int) + (totL xss : Int) + z = left) := by
          have h1 := HZ.out
          rwa [List.take_of_length_le (by rw [HN.out]; exact Nat.le_refl _)] at h1
        go_wp2
        go_ret
        exact ⟨_, rfl, rfl, by omega, by omega, .inr HT.out⟩

theorem OwnII.ofMake {w : World} {lo hi n : Nat} {a : Option Addr} (h : w.ownsRow lo 22 1 (.slice a n n) n (List.replicate n (.slice none 0 0))) (ha : ∀ p, a = some p → p.block < hi) : OwnII w lo hi a n n (List.replicate n []) := by
  refine ⟨List.replicate n (none, 0, 0), by simp, by simp, by simpa [List.map_replicate, sl3] using h, ha, ?_, ?_⟩
  · intro i r xs hr hx
    have e1 := List.eq_of_mem_replicate (List.mem_of_getElem? hr)
    have e2 := List.eq_of_mem_replicate (List.mem_of_getElem? hx)
    subst e1; subst e2
    exact ⟨OwnI.nil _ _, fun p hp => by cases hp⟩
  · intro i j r s p q _ hr _ hp _
    have e1 := List.eq_of_mem_replicate (List.mem_of_getElem? hr)
    subst e1
    cases hp

set_option maxHeartbeats 600000 in
theorem toIntSS_any (a : Option Addr) (n c : Nat) (xss : List (List Int)) (w : World) (ha : IIs w a n c xss) :
    Calls Try.prog 23 #[.slice a n c] w (RetII w xss) := by
  have HN : Hid (xss.length = n) := ha.2.1
  have hnb := ha.2.2.1
  go_enter Try.func23, Try.ntmps23
  go_wp2_with (at_make; refine wpList_mk1 rfl _ _ 23 rfl 22 (.slice none 0 0) 24 Try.underlying23 infoRow rfl _ _ n rfl rfl (by omega) (by omega) ?_)
  intro w1 h1 hb1
  have ho1 : OwnII w1 w.heap.size w1.heap.size (some ⟨w.heap.size, 0, none⟩) n n (List.replicate n []) := OwnII.ofMake h1 (fun p hp => by have := (h1.lt p.block (by rw [hp]; rfl)).2; exact this)
  have hsz1 := hb1.size
  clear h1
  go_wp2
  go_loopw [4] (fun i wr => ∃ (k hi : Nat), k ≤ n ∧ i = .int .i64 k ∧ hi ≤ wr.heap.size ∧ w.heap.size ≤ hi ∧ OwnII wr w.heap.size hi (some ⟨w.heap.size, 0, none⟩) n n (xss.take k ++ (List.replicate n []).drop k) ∧ Below w.heap.size w wr) (fun i _ => n - (intOf i).toNat)
  case atStart => exact ⟨0, w1.heap.size, Nat.zero_le _, rfl, Nat.le_refl _, hsz1, by simpa using ho1, hb1⟩
  case round =>
    obtain ⟨k, hi, hk, rfl, hhi, hlo, ho, hb⟩ := hrel
    by_cases hlt : k < n
    · obtain ⟨ab, ao, ra, rn, rc, xs, rfl, hx, hr, HX⟩ := (ha.below hb).at hlt
      have hK := toIntS_sl ra rn rc xs wr hr
      clear hr
      have Ho := Lib.hid ho; clear ho
      have Hb := Lib.hid hb; clear hb
      go_wp2_with fail
      refine hK.mono ?_
      rintro e w3 ⟨a3, n3, c3, rfl, ho3, hb3⟩
      have hsz3 := hb3.size
      obtain ⟨g, _, _, _, _, hg, hcell, _, _, _⟩ := (Ho.out.below hb3).row hlt
      obtain rfl : g = w.heap.size := by have := Option.some.inj hg; simp at this; exact this.symm
      obtain ⟨p1, p2, p3, hfz, p5⟩ := (Ho.out.below hb3).put hlt ho3.ins hhi hlo (by omega)
      have hbb : Below w.heap.size w (w3.setCell ⟨w.heap.size, k, none⟩ (.slice a3 n3 c3)) := (Hb.out.trans (hb3.mono Hb.out.size)).trans (grownBy_below p2 (by have := Hb.out.size; omega) (fun q hq => by cases hq; omega))
      clear hK hx ho3 hb3 p2
      go_wp2
      go_roundw
      case rel =>
        refine ⟨k + 1, w3.heap.size, by omega, by go_num, by rw [p5]; exact Nat.le_refl _, by omega, ?_, hbb⟩
        rw [← set_take_drop (by simpa using hlt) HX.out (by rw [HN.out]; exact hk)]
        exact p1
      case measure => simp [intOf]; omega
    · have hkn : k = n := by omega
      subst hkn
      have e : xss.take k ++ (List.replicate k []).drop k = xss := by
        rw [List.take_of_length_le (by rw [HN.out]; exact Nat.le_refl _), List.drop_eq_nil_of_le (by simp), List.append_nil]
      rw [e] at ho
      go_wp2
      go_ret
      exact ⟨_, _, _, rfl, ho.mono (Nat.le_refl _) hhi, hb⟩

/-- A slice of slices as an argument: its blocks lie below hi. -/
def ArgII (w : World) (hi : Nat) (a : Option Addr) (n c : Nat) (xss : List (List Int)) : Prop :=
  (∀ i xs, xss[i]? = some xs → ∃ b o r, a = some ⟨b, o, none⟩ ∧ b < hi ∧ w.cell? ⟨b, o + i, none⟩ = some (sl3 r) ∧ ArgI w hi r.1 r.2.1 r.2.2 xs) ∧ xss.length = n ∧ n ≤ 2097152 ∧ n ≤ c
theorem ArgII.iis {w : World} {hi : Nat} {a : Option Addr} {n c : Nat} {xss : List (List Int)} (h : ArgII w hi a n c xss) : IIs w a n c xss := by
  refine ⟨fun i xs hx => ?_, h.2⟩
  obtain ⟨b, o, r, h1, _, h2, h3⟩ := h.1 i xs hx
  exact ⟨b, o, r, h1, h2, h3.1⟩
theorem IIs.arg {w : World} {a : Option Addr} {n c : Nat} {xss : List (List Int)} (h : IIs w a n c xss) : ArgII w w.heap.size a n c xss := by
  refine ⟨fun i xs hx => ?_, h.2⟩
  obtain ⟨b, o, r, h1, h2, h3⟩ := h.1 i xs hx
  exact ⟨b, o, r, h1, World.block_lt_of_cell? w ⟨b, o + i, none⟩ h2, h2, h3.arg⟩
theorem ArgII.below {w w' : World} {hi : Nat} {a : Option Addr} {n c : Nat} {xss : List (List Int)} (h : ArgII w hi a n c xss) (hb : Below w.heap.size w w') : ArgII w' hi a n c xss := by
  refine ⟨fun i xs hx => ?_, h.2⟩
  obtain ⟨b, o, r, h1, h0, h2, h3⟩ := h.1 i xs hx
  exact ⟨b, o, r, h1, h0, (hb.cell (p := ⟨b, o + i, none⟩) (World.block_lt_of_cell? w _ h2)).trans h2, h3.below hb⟩
theorem ArgII.out {w w' : World} {hi lo r : Nat} {a : Option Addr} {n c : Nat} {xss : List (List Int)} (h : ArgII w hi a n c xss) (ho : Out lo r w w') (hd : hi ≤ lo) : ArgII w' hi a n c xss := by
  refine ⟨fun i xs hx => ?_, h.2⟩
  obtain ⟨b, o, q, h1, h0, h2, h3⟩ := h.1 i xs hx
  have hlt : b < w.heap.size := World.block_lt_of_cell? w ⟨b, o + i, none⟩ h2
  exact ⟨b, o, q, h1, h0, (World.cell?_of_block (w := w) (ho.block b hlt (.inl (by omega)))).trans h2, h3.out ho hd⟩
end Go.Proofs.Ythkhbdgameoakaa
