/- The walks of the laws FnExactFormatInt, FnExactParseInt, FnExactParseNumber: they return true, and write to nothing that was there. Conditions: the library's table of powers of ten and its two errors are as start-up lays them. -/
import Derived.Test.YtmojniiimondfaaDoorN03
namespace Go.Proofs.YtmojniiimondfaaDoor
open Go.RowKit

set_option maxHeartbeats 400000 in
theorem FnExactFormatInt_walk (n : Int) {w : World} (hw : (Lit.int .i64 n).wf = true) (hp : Pow w) :
    Calls Tryd.prog 3 #[.int .i64 n] w fun e w' => e = .returned (.bool true) ∧ Below w.heap.size w w' := by
  have hS := formatInt_any n w hw
  have hI : ∀ W, Pow W → Calls Tryd.prog 10 #[.int .i64 n] W (RetV W (.string ⟨(Lib.itoa n).toArray⟩)) := fun W h => impl_FormatInt n W hw h
  generalize Lib.itoa n = L at hS hI
  go_enter Tryd.func3, Tryd.ntmps3
  go_wp2_with fail
  refine hS.mono ?_
  rintro e w1 ⟨rfl, hb1⟩
  go_wp2_with fail
  refine (hI w1 (hp.below hb1)).mono ?_
  rintro e w2 ⟨rfl, hb2⟩
  have hbw := hb1.trans (hb2.mono hb1.size)
  go_wp2
  go_ret
  exact ⟨rfl, hbw⟩

theorem same_int (x : Int) : (x == x) = true := by simp
theorem same_bool (x : Bool) : (x == x) = true := by simp

set_option maxHeartbeats 400000 in
theorem FnExactParseInt_walk (s : ByteArray) {w : World} (hw : s.size ≤ maxLen) (hp : Pow w) (he : Errs w) :
    Calls Tryd.prog 6 #[.string s] w fun e w' => e = .returned (.bool true) ∧ Below w.heap.size w w' := by
  by_cases hbig : 1048576 < s.size
  · go_enter Tryd.func6, Tryd.ntmps6
    go_wp2
    go_ret
    exact ⟨rfl, Below.refl _ _⟩
  have hs : s.size ≤ 1048576 := by omega
  clear hbig hw
  have hS := spec_ParseInt s w hs
  have hI : ∀ W, Pow W → Errs W → Calls Tryd.prog 20 #[.string s] W (RetV W (prs (numIn (-999999999999) 999999999999 s.data.toList))) := fun W h1 h2 => impl_ParseInt s W hs h1 h2
  generalize numIn (-999999999999) 999999999999 s.data.toList = O at hS hI
  unfold prs at hS hI
  generalize O.getD 0 = x at hS hI
  generalize O.isSome = b at hS hI
  have hx := same_int x
  have hy := same_bool b
  go_enter Tryd.func6, Tryd.ntmps6
  go_wp2_with fail
  refine hS.mono ?_
  rintro e w1 ⟨rfl, hb1⟩
  go_wp2_with fail
  refine (hI w1 (hp.below hb1) (he.below hb1)).mono ?_
  rintro e w2 ⟨rfl, hb2⟩
  have hbw := hb1.trans (hb2.mono hb1.size)
  go_wp2
  go_ret
  exact ⟨rfl, hbw⟩

set_option maxHeartbeats 400000 in
theorem FnExactParseNumber_walk (s : ByteArray) {w : World} (hw : s.size ≤ maxLen) (hp : Pow w) (he : Errs w) :
    Calls Tryd.prog 7 #[.string s] w fun e w' => e = .returned (.bool true) ∧ Below w.heap.size w w' := by
  by_cases hbig : 1048576 < s.size
  · go_enter Tryd.func7, Tryd.ntmps7
    go_wp2
    go_ret
    exact ⟨rfl, Below.refl _ _⟩
  have hs : s.size ≤ 1048576 := by omega
  clear hbig hw
  have hS := spec_ParseNumber s w hs
  have hI : ∀ W, Pow W → Errs W → Calls Tryd.prog 22 #[.string s] W (RetV W (prs (numIn 0 999999 s.data.toList))) := fun W h1 h2 => impl_ParseNumber s W hs h1 h2
  generalize numIn 0 999999 s.data.toList = O at hS hI
  unfold prs at hS hI
  generalize O.getD 0 = x at hS hI
  generalize O.isSome = b at hS hI
  have hx := same_int x
  have hy := same_bool b
  go_enter Tryd.func7, Tryd.ntmps7
  go_wp2_with fail
  refine hS.mono ?_
  rintro e w1 ⟨rfl, hb1⟩
  go_wp2_with fail
  refine (hI w1 (hp.below hb1) (he.below hb1)).mono ?_
  rintro e w2 ⟨rfl, hb2⟩
  have hbw := hb1.trans (hb2.mono hb1.size)
  go_wp2
  go_ret
  exact ⟨rfl, hbw⟩
end Go.Proofs.YtmojniiimondfaaDoor
