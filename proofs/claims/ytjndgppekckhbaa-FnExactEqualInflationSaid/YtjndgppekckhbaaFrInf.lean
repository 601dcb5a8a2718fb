/- How an inflation that came in reads; the laws' guard on its size, its copy. No condition. -/
import Derived.Test.YtjndgppekckhbaaFrII
import Derived.Test.YtjndgppekckhbaaF46
import Derived.Lib.SmallJoins
import Derived.Deep.Slices
namespace Go.Proofs.Ytjndgppekckhbaa
open Go.ChangeShapes Go.WideShapes Go.ChangeAt Go.RowKit

/-- An inflation that came in. -/
def InInf (w : World) (a : Option Addr) (n c : Nat) (xs : List Int) (b : Option Addr) (m d : Nat) (xss : List (List Int)) : Prop := InInts w a n c xs ∧ InIntss w b m d xss
theorem slice_of {H : Type} {enc : TypeId × Value → H} {w : World} {base : Nat} {held : Bool} {fuel : Nat} {t e : TypeId} {v : Value} {x : DataW H × List MemPlace} (ht : Try.prog.underlying t = some (.slice e))
    (h : DataW.trod enc Try.prog w base (fun _ => true) held fuel t [v] = some x) : ∃ a n c, v = .slice a n c := by
  rcases Go.Deep.open_slice ht h with ⟨h0, _⟩ | ⟨a, len, cap, m, n, D, Pl, hcs, _⟩
  · simp only [List.cons.injEq, and_true] at h0; exact ⟨_, _, _, h0⟩
  · simp only [List.cons.injEq, and_true] at hcs; exact ⟨_, _, _, hcs⟩
theorem opened_inf {H : Type} {enc : TypeId × Value → H} {w : World} {base b0 : Nat} {held : Bool} {v : Value} {d : DataW H} {p : List MemPlace} (hv : Value.okWide Try.prog w .any b0 31 v)
    (h : DataW.Trod enc Try.prog w base (fun _ => true) held 31 v d p) :
    ∃ a n c xs b m d xss, v = infV a n c b m d ∧ InInf w a n c xs b m d xss := by
  obtain ⟨v0, v1, y0, y1, n, rfl, _, _, h0, h1⟩ := Go.Joins.open_agg2 Try.underlying31 (by kernel_rfl) (by kernel_rfl) hv h
  obtain ⟨a, n1, c, rfl⟩ := slice_of Try.underlying22 h0
  obtain ⟨b, m, d, rfl⟩ := slice_of Try.underlying29 h1
  obtain ⟨xs, hx⟩ := opened_ints h0
  obtain ⟨xss, hxx⟩ := opened_intss h1
  exact ⟨a, n1, c, xs, b, m, d, xss, rfl, hx, hxx⟩
end Go.Proofs.Ytjndgppekckhbaa
