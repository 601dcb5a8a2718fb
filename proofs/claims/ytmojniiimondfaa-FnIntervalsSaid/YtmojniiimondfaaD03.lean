/- How a slice of bytes that came in reads; the laws' guard on its length. No condition. -/
import Derived.Test.YtmojniiimondfaaD01
import Derived.Test.YtmojniiimondfaaFrame
namespace Go.Proofs.Ytmojniiimondfaa
open Go.ChangeShapes Go.WideShapes Go.ChangeAt Go.RowKit

/-- A slice of bytes that came in. -/
def InBytes (w : World) (a : Option Addr) (n c : Nat) (_ : Unit) : Prop := Byts w w.heap.size a n ∧ n ≤ c ∧ c ≤ maxLen
theorem opened_bytes {H : Type} {enc : TypeId × Value → H} {w : World} {base : Nat} {held : Bool} {fuel : Nat} {a : Option Addr} {n c : Nat} {x : DataW H × List MemPlace}
    (h : DataW.trod enc Try.prog w base (fun _ => true) held fuel 33 (Value.slice a n c).cells.toList = some x) :
    ∃ u, InBytes w a n c u := by
  rcases open_ints Try.underlying33 Try.underlying5 (by kernel_rfl) h with ⟨hcs, _⟩ | ⟨p, l, c', zs, hcs, _, hl, hm, hz, _, hcell, hwf⟩
  · simp [Value.cells] at hcs
    obtain ⟨rfl, rfl, rfl⟩ := hcs
    exact ⟨(), fun i hi => by omega, Nat.le_refl _, by unfold maxLen; omega⟩
  · simp [Value.cells] at hcs
    obtain ⟨rfl, rfl, rfl⟩ := hcs
    have hz' : zs.length = c := by simpa using hz
    refine ⟨(), fun i hi => ?_, hl, hm⟩
    have hc := hcell i (by rw [hz']; omega)
    obtain ⟨b, o, spot⟩ := p
    obtain rfl : spot = none := by
      by_cases h0 : i = 0
      · subst h0; simpa [Addr.add] using World.cell?_spot hc
      · have hc0 := hcell 0 (by rw [hz']; omega)
        simpa [Addr.add] using World.cell?_spot hc0
    rw [Addr.add_lit] at hc
    refine ⟨b, o, zs.getD i 0, rfl, World.block_lt_of_cell? w ⟨b, o + i, none⟩ hc, hc, ?_⟩
    have hmem : zs.getD i 0 ∈ zs := by
      rw [List.getD, List.getElem?_eq_getElem (by omega)]
      exact List.getElem_mem _
    have hw := hwf _ hmem
    generalize zs.getD i 0 = z at hw ⊢
    have e1 : IntKind.u8.min = 0 := by decide
    have e2 : IntKind.u8.max = 255 := by decide
    simp [Lit.wf] at hw
    omega

theorem big_any (a : Option Addr) (n c : Nat) (w : World) (hn : n ≤ maxLen) :
    Calls Try.prog 18 #[.slice a n c] w fun e w' => e = .returned (.bool (decide (1048576 < n))) ∧ w' = w := by
  unfold maxLen at hn
  by_cases h : 1048576 < n
  · rw [decide_eq_true h]
    have hI : (1048576 : Int) < (n : Int) := by omega
    go_enter Try.func18, Try.ntmps18
    go_wp2
    go_ret
    exact ⟨ret_bool (by simp), rfl⟩
  · rw [decide_eq_false h]
    have hI : ¬ ((1048576 : Int) < (n : Int)) := by omega
    go_enter Try.func18, Try.ntmps18
    go_wp2
    go_ret
    exact ⟨ret_bool (by simp), rfl⟩
end Go.Proofs.Ytmojniiimondfaa
