/- The program's EqualInflation returns what the reference's returns, for all arguments. No condition. -/
import Derived.Test.YtjndgppekckhbaaWEqualInflation
import Derived.Test.YtjndgppekckhbaaFrame
import Derived.Test.YtjndgppekckhbaaFrInf
namespace Go.Proofs.Ytjndgppekckhbaa.FnExactEqualInflation
open Go.ChangeShapes Go.WideShapes Go.ChangeAt Go.RowKit
open Go.ChangeMaps (open_string shut_string)

theorem walk (aA : Option Addr) (nA cA : Nat) (xA : List Int) (bA : Option Addr) (mA dA : Nat) (xxA : List (List Int)) (aB : Option Addr) (nB cB : Nat) (xB : List Int) (bB : Option Addr) (mB dB : Nat) (xxB : List (List Int)) {w : World} (hA : InInf w aA nA cA xA bA mA dA xxA) (hB : InInf w aB nB cB xB bB mB dB xxB) (_ : World) :
    Calls Try.prog 7 #[infV aA nA cA bA mA dA, infV aB nB cB bB mB dB] w fun e w' => e = .returned (.bool true) ∧ Below w.heap.size w w' := FnExactEqualInflation_walk aA nA cA xA bA mA dA xxA aB nB cB xB bB mB dB xxB hA hB

set_option maxRecDepth 100000 in
theorem lifted (os : Os) (started : os.Started) (H : Type) (enc : TypeId × Value → H) :
    ReturnsInHanded {} Try.checked os 7 .any (Rows.fnExactEqualInflationSpec.pre6 enc Try.prog Try.f7 Rows.fnExactEqualInflationRow.domain false) (Rows.fnExactEqualInflationSpec.post enc Try.prog Try.f7 false true false false) := by
  refine returnsInHanded_of_change (C := Try.checked) own started (by kernel_rfl) Try.func7
    (ChangeSpec.witness6 (enc := enc) (C := Try.checked) false ⟨#[], #[.agg #[.slice none 0 0, .slice none 0 0], .agg #[.slice none 0 0, .slice none 0 0]], []⟩ 8 (by kernel_rfl) (by kernel_rfl) (by kernel_rfl) (by kernel_rfl)) ?_
  intro W base args ds gs before hval0 hW hcnd _
  have hval : ∀ (j : Nat) t v, Try.f7.params[j]? = some t → args[j]? = some v → Value.okWide Try.prog W .any base t v := hval0
  have hW' := hW
  obtain ⟨p, q, hA0, hV, rfl, hfz, hnd⟩ := hW
  have hA : DataW.TrodAll enc Try.prog W 0 (fun _ => true) true Try.f7.params.toList args.toList ds p := hA0
  rw [Try.params7] at hA hval
  obtain ⟨v0, vs0, d0, ds0, p0, q0, hargs, rfl, rfl, h0, r0⟩ := trodAll_cons hA
  obtain ⟨v1, vs1, d1, ds1, p1, q1, rfl, rfl, rfl, h1, r1⟩ := trodAll_cons r0
  obtain ⟨rfl, rfl, rfl⟩ := trodAll_nil r1
  obtain rfl : args = #[v0, v1] := by cases args; simp_all
  obtain ⟨rfl, rfl⟩ := trodVars_none hV
  have k0 := h0
  have lt0 : ∀ x ∈ p0, x.block < W.heap.size := by obtain ⟨m, hm⟩ := k0; exact DataW.trod_lt m _ _ _ hm
  obtain ⟨a0, n0, c0, x0, b0, m0, d0', xx0, rfl, w0⟩ := opened_inf (hval 0 31 v0 rfl rfl) h0
  have k1 := h1
  have lt1 : ∀ x ∈ p1, x.block < W.heap.size := by obtain ⟨m, hm⟩ := k1; exact DataW.trod_lt m _ _ _ hm
  obtain ⟨a1, n1, c1, x1, b1, m1, d1', xx1, rfl, w1⟩ := opened_inf (hval 1 31 v1 rfl rfl) h1
  clear hA0 hval0
  refine (walk a0 n0 c0 x0 b0 m0 d0' xx0 a1 n1 c1 x1 b1 m1 d1' xx1 w0 w1 W).mono fun e W' ⟨he, bel⟩ => ?_
  subst he
  exact ⟨_, rfl, _, _, _, [], _, [], hW', trodAll_mk1 (shut_bool Try.underlying4 _), (trodAll_cons_mk (Below.trod laidOut (by kernel_rfl) (of_decide_eq_true (by kernel_rfl)) k0 bel lt0) (trodAll_cons_mk (Below.trod laidOut (by kernel_rfl) (of_decide_eq_true (by kernel_rfl)) k1 bel lt1) (trodAll_mk0))), rfl, bel.frame _, fun h => by cases h⟩

theorem over : Rows.fnExactEqualInflationRow.holds Try.pinned (OpenSpec.ofChange Rows.fnExactEqualInflationSpec) :=
  OpenClaim.holds_of_wide 7 Try.f7 rfl rfl rfl rfl rfl rfl rfl ⟨rfl, rfl, rfl, rfl, rfl⟩ rfl rfl rfl rfl rfl (by kernel_rfl) Try.func7 (by kernel_rfl)
    (of_decide_eq_true (by kernel_rfl)) (by unfold Func.isWrapper; rw [if_neg (of_decide_eq_false (by kernel_rfl))]; exact ⟨rfl, rfl⟩)
    (fun os started H enc _ => lifted os started H enc)

theorem proved : Rows.FnExactEqualInflationSaid := over
end Go.Proofs.Ytjndgppekckhbaa.FnExactEqualInflation
