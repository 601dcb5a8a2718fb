/- The laws' guard on an inflation's size, its copy, its comparison. No condition but on the sizes. -/
import Derived.Test.YtjndgppekckhbaaFrInf
import Derived.Laws.ResultCell
namespace Go.Proofs.Ytjndgppekckhbaa
open Go.RowKit

set_option maxHeartbeats 600000 in
theorem szInflation_any (a : Option Addr) (n c : Nat) (xs : List Int) (b : Option Addr) (m d : Nat) (xss : List (List Int)) (left : Int) (w : World) (h : InInf w a n c xs b m d xss) (h0 : 0 ≤ left) (h1 : left ≤ 1048576) :
    Calls Try.prog 27 #[infV a n c b m d, .int .i64 left] w fun e w' => ∃ z : Int, e = .returned (.int .i64 z) ∧ Below w.heap.size w w' ∧ -1 ≤ z ∧ z ≤ 1048576 ∧ (z < 0 ∨ (n : Int) + ((m : Int) + (totL xss : Int)) + z = left) := by
  unfold infV
  have hbx := below_alloc w (.cells #[.slice a n c, .slice b m d] 31)
  have hn : n ≤ maxLen := Nat.le_trans h.1.2.2.1 h.1.2.2.2.1
  have c1 := szIntS_any a n c left (w.alloc (.cells #[.slice a n c, .slice b m d] 31)) hn h0 h1
  have hin : InIntss (w.alloc (.cells #[.slice a n c, .slice b m d] 31)) b m d xss := by
    refine ⟨fun i xs hx => ?_, h.2.2⟩
    obtain ⟨b', o, r, e1, e2, e3⟩ := h.2.1 i xs hx
    exact ⟨b', o, r, e1, (hbx.cell (p := ⟨b', o + i, none⟩) (World.block_lt_of_cell? w _ e2)).trans e2, e3.1.below hbx, e3.2⟩
  by_cases hneg : left - (n : Int) < 0
  · rw [if_pos hneg] at c1
    clear hneg hn
    go_enter Try.func27, Try.ntmps27
    go_wp2_with fail
    refine c1.mono ?_
    rintro e w1 ⟨rfl, rfl⟩
    clear c1
    go_wp2
    go_ret
    exact ⟨_, rfl, hbx, by omega, by omega, .inl (by omega)⟩
  · rw [if_neg hneg] at c1
    have hz0 : 0 ≤ left - (n : Int) := by omega
    have c2 := szIntSS_any b m d xss (left - (n : Int)) _ hin hz0 (by omega)
    have C2 := Lib.hid c2
    clear c2 hin hn hneg
    go_enter Try.func27, Try.ntmps27
    go_wp2_with fail
    refine c1.mono ?_
    rintro e w1 ⟨rfl, rfl⟩
    clear c1
    go_wp2_with fail
    refine C2.out.mono ?_
    rintro e w1 ⟨z, rfl, rfl, hz1, hz2, hz3⟩
    have HZ := Lib.hid hz3
    clear hz3
    by_cases hzn : z < 0
    · go_wp2
      go_ret
      exact ⟨_, rfl, hbx, by omega, by omega, .inl (by omega)⟩
    · go_wp2
      go_ret
      exact ⟨_, rfl, hbx, hz1, hz2, .inr (by rcases HZ.out with h | h <;> omega)⟩

theorem cellThru {W w1 : World} {B : Nat} {p : Addr} {v : Value} (hb : Below B W w1) (hp : p.block < B) (hc : W.cell? p = some v) : w1.cell? p = some v := (hb.cell hp).trans hc
theorem frozenThru {W w1 : World} {B : Nat} {p : Addr} (hb : Below B W w1) (hp : p.block < B) (hc : W.frozen? p = false) : w1.frozen? p = false := (hb.frozen hp).trans hc
theorem out_setCell {w : World} {lo hi : Nat} {p : Addr} (h1 : lo ≤ p.block) (h2 : p.block < hi) (v : Value) : Out lo hi w (w.setCell p v) :=
  ⟨rfl, rfl, rfl, by simp, fun k _ hr => Below.heap_setCell w p v k (by omega)⟩
theorem results_cell1 {fn : Func} {p : Tmp} {ty : TypeId} (h : fn.results = #[.cell p ty]) (tmps : Array Value) (P : Program) (w : World) :
    (results fn tmps).run P w = ((asAddr (tmps.getD p undef)).run P w).andThen fun a w1 => (loadVar ty a).run P w1 := by
  simp only [results, h]
  simp [Sem.run_bind, Result.andThen]
/-- An inflation, given back: it reads so. -/
def RetF (w : World) (xs : List Int) (xss : List (List Int)) (e : Ending) (w' : World) : Prop :=
  ∃ a n c b m d, e = .returned (.agg #[.slice a n c, .slice b m d]) ∧ SlI w' a n c xs ∧ IIs w' b m d xss ∧ Below w.heap.size w w'

set_option maxHeartbeats 800000 in
theorem toInflation_any (a : Option Addr) (n c : Nat) (xs : List Int) (b : Option Addr) (m d : Nat) (xss : List (List Int)) (w : World) (h1 : SlI w a n c xs) (h2 : IIs w b m d xss) (ht : totL xss ≤ 2097152) :
    Calls Try.prog 29 #[infV a n c b m d] w (RetF w xs xss) := by
  unfold infV
  have hbx := below_alloc w (.cells #[.slice a n c, .slice b m d] 31)
  have hnb := h1.2.2.1
  have hmb := h2.2.2.1
  have HN : Hid (xs.length = n) := h1.2.1
  have HM : Hid (xss.length = m) := h2.2.1
  have H1 := Lib.hid h1
  have H2 := Lib.hid h2
  clear h1 h2
  go_enter Try.func29, Try.ntmps29
  go_wp2_with fail
  have hB0 : Below w.heap.size w (((w.alloc (.cells #[.slice a n c, .slice b m d] 31)).alloc (.cells #[.slice none 0 0, .slice none 0 0] 34)).alloc (.cells #[.slice none 0 0, .slice none 0 0] 34)) :=
    ((below_alloc w _).alloc (by simp) _).alloc (by simp; omega) _
  refine (toIntS_sl a n c xs _ (H1.out.below hB0)).mono ?_
  rintro e w1 ⟨a1, n1, c1, rfl, ho1, hb1⟩
  have hz1 : w.heap.size + 1 + 1 + 1 ≤ w1.heap.size := by have := hb1.size; simp at this; omega
  have q1 : w1.cell? ⟨w.heap.size, 1, none⟩ = some (.slice b m d) := cellThru hb1 (by simp; omega) (by rw [World.cell?_alloc_past (hn := by simp; omega), World.cell?_alloc_past (hn := by simp), World.cell?_alloc_at (hn := rfl)]; rfl)
  have q2 : w1.cell? ⟨w.heap.size + 1, 0, none⟩ = some (.slice none 0 0) := cellThru hb1 (by simp) (by simp [World.cell?_alloc_at, World.cell?_alloc_past, World.frozen?_alloc_at, World.frozen?_alloc_past])
  have q3 : w1.cell? ⟨w.heap.size + 1, 1, none⟩ = some (.slice none 0 0) := cellThru hb1 (by simp) (by simp [World.cell?_alloc_at, World.cell?_alloc_past, World.frozen?_alloc_at, World.frozen?_alloc_past])
  have q4 : w1.cell? ⟨w.heap.size + 1 + 1, 0, none⟩ = some (.slice none 0 0) := cellThru hb1 (by simp) (by simp [World.cell?_alloc_at, World.cell?_alloc_past, World.frozen?_alloc_at, World.frozen?_alloc_past])
  have q5 : w1.cell? ⟨w.heap.size + 1 + 1, 1, none⟩ = some (.slice none 0 0) := cellThru hb1 (by simp) (by simp [World.cell?_alloc_at, World.cell?_alloc_past, World.frozen?_alloc_at, World.frozen?_alloc_past])
  have f2 : w1.frozen? ⟨w.heap.size + 1, 0, none⟩ = false := frozenThru hb1 (by simp) (by simp [World.cell?_alloc_at, World.cell?_alloc_past, World.frozen?_alloc_at, World.frozen?_alloc_past])
  have f3 : w1.frozen? ⟨w.heap.size + 1, 1, none⟩ = false := frozenThru hb1 (by simp) (by simp [World.cell?_alloc_at, World.cell?_alloc_past, World.frozen?_alloc_at, World.frozen?_alloc_past])
  have f4 : w1.frozen? ⟨w.heap.size + 1 + 1, 0, none⟩ = false := frozenThru hb1 (by simp) (by simp [World.cell?_alloc_at, World.cell?_alloc_past, World.frozen?_alloc_at, World.frozen?_alloc_past])
  have f5 : w1.frozen? ⟨w.heap.size + 1 + 1, 1, none⟩ = false := frozenThru hb1 (by simp) (by simp [World.cell?_alloc_at, World.cell?_alloc_past, World.frozen?_alloc_at, World.frozen?_alloc_past])
  have hBw1 : Below w.heap.size w w1 := hB0.trans (hb1.mono hB0.size)
  have hBs : Below w.heap.size w (w1.setCell ⟨w.heap.size + 1 + 1, 0, none⟩ (.slice a1 n1 c1)) := hBw1.setCell (by simp; omega) _
  have hi1 : OwnIn w1 (w.heap.size + 1 + 1 + 1) w1.heap.size a1 n1 c1 xs := (ho1.ins).mono (by simp) (Nat.le_refl _)
  have hi2 := hi1.out (out_setCell (lo := w.heap.size + 1) (hi := w.heap.size + 1 + 1 + 1) (p := ⟨w.heap.size + 1 + 1, 0, none⟩) (by simp) (by simp) (.slice a1 n1 c1)) (.inr (Nat.le_refl _))
  clear ho1 hi1
  go_wp2_with fail
  refine (toIntSS_any b m d xss _ (H2.out.below hBs)).mono ?_
  rintro e w2 ⟨a2, n2, c2, rfl, ho2, hb2⟩
  have hi3 := hi2.below hb2
  have hz2 : w1.heap.size ≤ w2.heap.size := by have := hb2.size; simpa using this
  have r2 : w2.cell? ⟨w.heap.size + 1, 0, none⟩ = some (.slice none 0 0) := cellThru hb2 (by simp; omega) (by rw [World.cell?_setCell_other _ _ _ _ (by simp)]; exact q2)
  have r3 : w2.cell? ⟨w.heap.size + 1, 1, none⟩ = some (.slice none 0 0) := cellThru hb2 (by simp; omega) (by rw [World.cell?_setCell_other _ _ _ _ (by simp)]; exact q3)
  have r4 : w2.cell? ⟨w.heap.size + 1 + 1, 0, none⟩ = some (.slice a1 n1 c1) := cellThru hb2 (by simp; omega) (World.cell?_setCell_same _ _ _ q4)
  have r5 : w2.cell? ⟨w.heap.size + 1 + 1, 1, none⟩ = some (.slice none 0 0) := cellThru hb2 (by simp; omega) (by rw [World.cell?_setCell_other _ _ _ _ (by simp)]; exact q5)
  have g2 : w2.frozen? ⟨w.heap.size + 1, 0, none⟩ = false := frozenThru hb2 (by simp; omega) (by rw [World.frozen?_setCell]; exact f2)
  have g3 : w2.frozen? ⟨w.heap.size + 1, 1, none⟩ = false := frozenThru hb2 (by simp; omega) (by rw [World.frozen?_setCell]; exact f3)
  have g4 : w2.frozen? ⟨w.heap.size + 1 + 1, 0, none⟩ = false := frozenThru hb2 (by simp; omega) (by rw [World.frozen?_setCell]; exact f4)
  have g5 : w2.frozen? ⟨w.heap.size + 1 + 1, 1, none⟩ = false := frozenThru hb2 (by simp; omega) (by rw [World.frozen?_setCell]; exact f5)
  clear q1 q2 q3 q4 q5 f2 f3 f4 f5 hi2
  go_wp2
  (try simp only [Exit.inBlock, Exit.then])
  refine bodyPost_ret (v := .agg #[.slice a1 n1 c1, .slice a2 n2 c2]) ?_ rfl ?_
  · rw [results_cell1 rfl]
    go_simp
  · have hou : Out (w.heap.size + 1) (w.heap.size + 1 + 1 + 1) w2 (((w2.setCell ⟨w.heap.size + 1 + 1, 1, none⟩ (.slice a2 n2 c2)).setCell ⟨w.heap.size + 1, 0, none⟩ (.slice a1 n1 c1)).setCell ⟨w.heap.size + 1, 1, none⟩ (.slice a2 n2 c2)) :=
      ((out_setCell (by simp) (by simp) _).trans (out_setCell (by simp) (by simp) _)).trans (out_setCell (by simp) (by simp) _)
    have hbe : Below w.heap.size w w2 := hBs.trans (hb2.mono (by simp; omega))
    have hi4 := hi3.out hou (.inr (Nat.le_refl _))
    have hi5 := ho2.out hou (.inr (by simp; omega))
    have hl1 := hi4.1.1
    have hl2 := hi5.len
    refine ⟨_, _, _, _, _, _, rfl, hi4.sl (by have := HN.out; omega), hi5.iisT ⟨ht, by have := HM.out; omega⟩, hbe.trans ⟨hou.os, hou.tape, hou.output, hou.size, fun k hk => hou.block k (by have := hbe.size; omega) (.inl (by omega))⟩⟩
end Go.Proofs.Ytjndgppekckhbaa
