/- The program's FormatInt, ParseInt, ParseNumber. Conditions: the library's table of powers of ten and its two errors are as start-up lays them; at most 2^20 bytes. -/
import Derived.Test.YtmojniiimondfaaDoorN02
import Derived.Test.YtmojniiimondfaaDoorShD
import Derived.Lib.SmallJoins
import Derived.Lib.AppendIntMem
namespace Go.Proofs.YtmojniiimondfaaDoor
open Go.RowKit Go.Shelf

/-- The library's table of powers of ten is as it is laid. -/
def Pow (w : World) : Prop := Lib.TabIs Tryd.prog w "internal/strconv.uint64pow10" .u64 Lib.pow10Tab
/-- The library's two errors are error values. -/
def Errs (w : World) : Prop := (∃ tp p, w.var? Tryd.prog "strconv.ErrSyntax" = some #[.iface tp p]) ∧ (∃ tp p, w.var? Tryd.prog "strconv.ErrRange" = some #[.iface tp p])
theorem gPow : Tryd.prog.globalNamed "internal/strconv.uint64pow10" = some 0 := by kernel_rfl
theorem gSyn : Tryd.prog.globalNamed "strconv.ErrSyntax" = some 2 := by kernel_rfl
theorem gRan : Tryd.prog.globalNamed "strconv.ErrRange" = some 3 := by kernel_rfl
theorem Pow.below {w w' : World} (h : Pow w) (hb : Below w.heap.size w w') : Pow w' := Go.Joins.tab_stays gPow h hb (Nat.le_refl _)
theorem var_below {w w' : World} {nm : String} {g : Nat} {x : Array Value} (hg : Tryd.prog.globalNamed nm = some g) (h : w.var? Tryd.prog nm = some x) (hb : Below w.heap.size w w') : w'.var? Tryd.prog nm = some x := by
  unfold World.var? at h ⊢
  simp only [hg, Option.bind_some] at h ⊢
  have hlt : g < w.heap.size := by
    rcases Nat.lt_or_ge g w.heap.size with h' | h'
    · exact h'
    · rw [Array.getElem?_eq_none h'] at h; simp at h
  rw [hb.block g hlt]; exact h
theorem Errs.below {w w' : World} (h : Errs w) (hb : Below w.heap.size w w') : Errs w' := by
  obtain ⟨⟨t1, p1, h1⟩, ⟨t2, p2, h2⟩⟩ := h
  exact ⟨⟨t1, p1, var_below gSyn h1 hb⟩, ⟨t2, p2, var_below gRan h2 hb⟩⟩

theorem itoa_any (n : Int) (w : World) (hw : (Lit.int .i64 n).wf = true) (hp : Pow w) :
    Calls Tryd.prog 25 #[.int .i64 n] w (RetV w (.string ⟨(Lib.itoa n).toArray⟩)) := by
  have hb : -9223372036854775808 ≤ n ∧ n ≤ 9223372036854775807 := by
    have h1 := hw; simp [Lit.wf] at h1; have e1 : IntKind.i64.min = -9223372036854775808 := by decide
    have e2 : IntKind.i64.max = 9223372036854775807 := by decide
    omega
  have hcon := Any.strconv_Itoa (P := Tryd.prog) Tryd.laysM171 n hb.1 hb.2 w hp
  change Calls Tryd.prog 25 _ _ _ at hcon
  refine hcon.mono ?_
  rintro e w' ⟨rfl, k, os, rfl⟩
  exact ⟨rfl, Lib.below_grow _ _ (Nat.le_refl _) _ _⟩

theorem impl_FormatInt (n : Int) (w : World) (hw : (Lit.int .i64 n).wf = true) (hp : Pow w) :
    Calls Tryd.prog 10 #[.int .i64 n] w (RetV w (.string ⟨(Lib.itoa n).toArray⟩)) := by
  have hC := itoa_any n w hw hp
  generalize Lib.itoa n = L at hC ⊢
  go_enter Tryd.func10, Tryd.ntmps10
  go_wp2_with fail
  refine hC.mono ?_
  rintro e w1 ⟨rfl, hb1⟩
  go_wp2
  go_ret
  exact ⟨rfl, hb1⟩

set_option maxHeartbeats 1000000 in
theorem parse_any (s : ByteArray) (low high : Int) (w : World) (hs : s.size ≤ 1048576) (hl : (Lit.int .i64 low).wf = true) (hh : (Lit.int .i64 high).wf = true) (hp : Pow w) (he : Errs w) :
    Calls Tryd.prog 33 #[.string s, .int .i64 low, .int .i64 high] w (RetV w (prs (numIn low high s.data.toList))) := by
  unfold prs
  rcases hA : Lib.atoiAll s.data.toList with v | _ | _
  · have hcon := Any.strconv_Atoi_ok (P := Tryd.prog) Tryd.laysC172 s (by omega) v hA w
    change Calls Tryd.prog 42 _ _ _ at hcon
    have hC : Calls Tryd.prog 42 #[.string s] w (RetV w (.tuple #[.int .i64 v, .nilIface])) := hcon.mono (by
      rintro e w' ⟨rfl, h | ⟨t, h⟩⟩
      · subst h; exact ⟨rfl, Below.refl _ _⟩
      · subst h; exact ⟨rfl, Lib.bytesWorld_below _ _ _⟩)
    have hvb := Lib.atoiAll_bounds hA
    have hv : (Lit.int .i64 v).wf = true := by
      have e1 : IntKind.i64.min = -9223372036854775808 := by decide
      have e2 : IntKind.i64.max = 9223372036854775807 := by decide
      simp [Lit.wf]; omega
    obtain ⟨O, hO⟩ : ∃ O, O = numIn low high s.data.toList := ⟨_, rfl⟩
    rw [← hO]
    unfold numIn at hO
    rw [hA] at hO
    simp only at hO
    clear hcon hA
    by_cases h1 : v < low
    · rw [if_neg (fun h => by omega)] at hO
      subst hO
      go_enter Tryd.func33, Tryd.ntmps33
      go_wp2_with fail
      refine hC.mono ?_
      rintro e w1 ⟨rfl, hb1⟩
      go_wp2
      go_ret2
      exact ⟨rfl, hb1⟩
    · by_cases h2 : high < v
      · rw [if_neg (fun h => by omega)] at hO
        subst hO
        go_enter Tryd.func33, Tryd.ntmps33
        go_wp2_with fail
        refine hC.mono ?_
        rintro e w1 ⟨rfl, hb1⟩
        go_wp2
        go_ret2
        exact ⟨rfl, hb1⟩
      · have hlo : low ≤ v := by omega
        have hhi : v ≤ high := by omega
        by_cases h3 : Lib.itoa v = s.data.toList
        · rw [if_pos ⟨hlo, hhi, h3⟩] at hO
          subst hO
          have he' : (Lib.itoa v == s.toList) = true := by rw [toListN, h3]; simp
          have hF : ∀ W, Pow W → Calls Tryd.prog 10 #[.int .i64 v] W (RetV W (.string ⟨(Lib.itoa v).toArray⟩)) := fun W hW => impl_FormatInt v W hv hW
          generalize Lib.itoa v = L at he' hF
          clear h3
          go_enter Tryd.func33, Tryd.ntmps33
          go_wp2_with fail
          refine hC.mono ?_
          rintro e w1 ⟨rfl, hb1⟩
          go_wp2_with fail
          refine (hF w1 (hp.below hb1)).mono ?_
          rintro e w2 ⟨rfl, hb2⟩
          go_wp2
          go_ret2
          exact ⟨rfl, hb1.trans (hb2.mono hb1.size)⟩
        · rw [if_neg (fun h => h3 h.2.2)] at hO
          subst hO
          have he' : (Lib.itoa v == s.toList) = false := by rw [toListN, beq_eq_false_iff_ne]; exact h3
          have hF : ∀ W, Pow W → Calls Tryd.prog 10 #[.int .i64 v] W (RetV W (.string ⟨(Lib.itoa v).toArray⟩)) := fun W hW => impl_FormatInt v W hv hW
          generalize Lib.itoa v = L at he' hF
          clear h3
          go_enter Tryd.func33, Tryd.ntmps33
          go_wp2_with fail
          refine hC.mono ?_
          rintro e w1 ⟨rfl, hb1⟩
          go_wp2_with fail
          refine (hF w1 (hp.below hb1)).mono ?_
          rintro e w2 ⟨rfl, hb2⟩
          go_wp2
          go_ret2
          exact ⟨rfl, hb1.trans (hb2.mono hb1.size)⟩
  · obtain ⟨⟨tp, p, hvar⟩, ⟨tp2, p2, hvar2⟩⟩ := he
    have hcon := Any.strconv_Atoi_syntax_var (P := Tryd.prog) Tryd.laysC172 s (by omega) hA tp p w hvar
    change Calls Tryd.prog 42 _ _ _ at hcon
    obtain ⟨O, hO⟩ : ∃ O, O = numIn low high s.data.toList := ⟨_, rfl⟩
    rw [← hO]
    unfold numIn at hO
    rw [hA] at hO
    simp only at hO
    subst hO
    clear hA
    go_enter Tryd.func33, Tryd.ntmps33
    go_wp2_with fail
    refine hcon.mono ?_
    rintro e w1 ⟨N, rfl, _, _, hb1⟩
    go_wp2
    go_ret2
    exact ⟨rfl, hb1⟩
  · obtain ⟨⟨tp, p, hvar⟩, ⟨tp2, p2, hvar2⟩⟩ := he
    have hcon := Any.strconv_Atoi_range_var (P := Tryd.prog) Tryd.laysC172 s (by omega) hA tp2 p2 w hvar2
    change Calls Tryd.prog 42 _ _ _ at hcon
    obtain ⟨O, hO⟩ : ∃ O, O = numIn low high s.data.toList := ⟨_, rfl⟩
    rw [← hO]
    unfold numIn at hO
    rw [hA] at hO
    simp only at hO
    subst hO
    clear hA
    generalize Lib.atoiSat s.data.toList = sat at hcon
    go_enter Tryd.func33, Tryd.ntmps33
    go_wp2_with fail
    refine hcon.mono ?_
    rintro e w1 ⟨N, rfl, _, _, hb1⟩
    go_wp2
    go_ret2
    exact ⟨rfl, hb1⟩

theorem wfC1 : (Lit.int .i64 (-999999999999)).wf = true := by decide
theorem wfC2 : (Lit.int .i64 999999999999).wf = true := by decide
theorem wfC3 : (Lit.int .i64 0).wf = true := by decide
theorem wfC4 : (Lit.int .i64 999999).wf = true := by decide
theorem impl_ParseInt (s : ByteArray) (w : World) (hs : s.size ≤ 1048576) (hp : Pow w) (he : Errs w) :
    Calls Tryd.prog 20 #[.string s] w (RetV w (prs (numIn (-999999999999) 999999999999 s.data.toList))) := by
  have hC := parse_any s (-999999999999) 999999999999 w hs wfC1 wfC2 hp he
  generalize numIn (-999999999999) 999999999999 s.data.toList = O at hC ⊢
  unfold prs at hC ⊢
  go_enter Tryd.func20, Tryd.ntmps20
  go_wp2_with fail
  refine hC.mono ?_
  rintro e w1 ⟨rfl, hb1⟩
  go_wp2
  go_ret2
  exact ⟨rfl, hb1⟩
theorem impl_ParseNumber (s : ByteArray) (w : World) (hs : s.size ≤ 1048576) (hp : Pow w) (he : Errs w) :
    Calls Tryd.prog 22 #[.string s] w (RetV w (prs (numIn 0 999999 s.data.toList))) := by
  have hC := parse_any s 0 999999 w hs wfC3 wfC4 hp he
  generalize numIn 0 999999 s.data.toList = O at hC ⊢
  unfold prs at hC ⊢
  go_enter Tryd.func22, Tryd.ntmps22
  go_wp2_with fail
  refine hC.mono ?_
  rintro e w1 ⟨rfl, hb1⟩
  go_wp2
  go_ret2
  exact ⟨rfl, hb1⟩
end Go.Proofs.YtmojniiimondfaaDoor
