/- From what a row lists of the library's variables to what the walks ask of the world. No condition. -/
import Derived.Test.YtmojniiimondfaaDoorN03
import Derived.Stop.LaidErr
import Derived.Lib.LaidTab
namespace Go.Proofs.YtmojniiimondfaaDoor
open Go.ChangeShapes Go.RowKit

theorem tPow : (Tryd.prog.globals[0]?).map (·.type) = some 89 := by kernel_rfl
theorem tSyn : (Tryd.prog.globals[2]?).map (·.type) = some 58 := by kernel_rfl
theorem tRan : (Tryd.prog.globals[3]?).map (·.type) = some 58 := by kernel_rfl
theorem cU64 : Tryd.prog.cellsOf 68 = 1 := by kernel_rfl
theorem cTab : Tryd.prog.cellsOf 89 = 20 := by kernel_rfl
theorem cErr : Tryd.prog.cellsOf 109 = 1 := by kernel_rfl
theorem cStr : Tryd.prog.cellsOf 9 = 1 := by kernel_rfl
theorem dPow : (Rows.laid_internal_strconv_uint64pow10 : DataW Unit) = Lib.tabData .u64 Lib.pow10Tab := by kernel_rfl
theorem rowErr : ∀ u, Tryd.prog.typeName? 3 u = some "*errors.errorString" → u = 107 :=
  fun u h => typeName_ptr_named (nm := "errors.errorString") (by kernel_rfl) (by kernel_rfl) (by decide) u h

theorem pow_of {x y : String × DataW Unit} {r : List (String × DataW Unit)} {W : World} (h : laidMet Tryd.prog (x :: y :: ("internal/strconv.uint64pow10", Rows.laid_internal_strconv_uint64pow10) :: r) W) : Pow W := by
  have h2 := h.tail.tail
  rw [dPow] at h2
  exact Lib.tabIs_of_head gPow tPow Tryd.underlying89 Tryd.underlying68 cU64 cTab h2
theorem errs_of {x y z : String × DataW Unit} {W : World} (h : laidMet Tryd.prog [x, y, z, ("strconv.ErrRange", Rows.laid_strconv_ErrRange), ("strconv.ErrSyntax", Rows.laid_strconv_ErrSyntax)] W) : Errs W := by
  have h2 := h.tail.tail.tail
  obtain ⟨a1, s1, hv1, _⟩ := laid_sentinel h2 gRan tRan Tryd.underlying58 rowErr Tryd.underlying107 Tryd.underlying109 rfl rfl Tryd.underlying9 cErr cStr
  obtain ⟨a0, s0, hv0, _⟩ := laid_sentinel h2.tail gSyn tSyn Tryd.underlying58 rowErr Tryd.underlying107 Tryd.underlying109 rfl rfl Tryd.underlying9 cErr cStr
  exact ⟨⟨_, _, hv0⟩, ⟨_, _, hv1⟩⟩
end Go.Proofs.YtmojniiimondfaaDoor
