/- What the laws' frames share: how an argument that came in reads. No condition. -/
import Derived.Test.YtmojniiimondfaaLib
import Derived.ProofKit
import Derived.OpenShut
import Derived.ShutString
import Derived.ChangeOld
import Derived.Below
namespace Go.Proofs.Ytmojniiimondfaa
open Go.ChangeShapes Go.WideShapes Go.ChangeAt Go.RowKit
open Go.ChangeMaps (open_string shut_string)

theorem own : ownKnob Try.prog.godebug = none := by kernel_rfl
theorem laidOut : laidOutB Try.prog = true := by kernel_rfl

/-- A slice of integers that came in. -/
def InInts (w : World) (a : Option Addr) (n c : Nat) (xs : List Int) : Prop := Ints w a xs ∧ xs.length = n ∧ n ≤ c ∧ c ≤ maxLen ∧ (a = none → c = 0)
/-- A slice of integers that came in: it reads as xs. -/
theorem opened_ints {H : Type} {enc : TypeId × Value → H} {w : World} {base : Nat} {held : Bool} {fuel : Nat} {a : Option Addr} {n c : Nat} {x : DataW H × List MemPlace}
    (h : DataW.trod enc Try.prog w base (fun _ => true) held fuel 28 (Value.slice a n c).cells.toList = some x) :
    ∃ xs, InInts w a n c xs := by
  rcases open_ints Try.underlying28 Try.underlying3 (by kernel_rfl) h with ⟨hcs, _⟩ | ⟨p, l, c', zs, hcs, _, hl, hm, hz, _, hcell, _⟩
  · simp [Value.cells] at hcs
    obtain ⟨rfl, rfl, rfl⟩ := hcs
    exact ⟨[], Ints.nil _ _, rfl, Nat.le_refl _, by unfold maxLen; omega, fun _ => rfl⟩
  · simp [Value.cells] at hcs
    obtain ⟨rfl, rfl, rfl⟩ := hcs
    have hz' : zs.length = c := by simpa using hz
    refine ⟨zs.take n, ?_, by rw [List.length_take, hz']; omega, hl, hm, by simp⟩
    intro i v hv
    have hi : i < n := by
      have := (List.getElem?_eq_some_iff.1 hv).1
      rw [List.length_take] at this; omega
    rw [List.getElem?_take_of_lt hi] at hv
    have hc := hcell i (by rw [hz']; omega)
    obtain ⟨b, o, spot⟩ := p
    obtain rfl : spot = none := by
      by_cases h0 : i = 0
      · subst h0; simpa [Addr.add] using World.cell?_spot hc
      · have hc0 := hcell 0 (by rw [hz']; omega)
        simpa [Addr.add] using World.cell?_spot hc0
    refine ⟨b, o, rfl, ?_⟩
    rw [Addr.add_lit] at hc
    rw [hc]; simp [List.getD, hv]
end Go.Proofs.Ytmojniiimondfaa
