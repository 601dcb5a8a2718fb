/- The pattern without a place: the walk of the reference's function. Conditions: as the names say. -/
import Derived.Test.YthkhbdgameoakaaF15
import Derived.Test.YthkhbdgameoakaaF20
namespace Go.Proofs.Ythkhbdgameoakaa
open Go.RowKit

/-- 'append(out, ys..)' as a step of a region that draws its order. -/
theorem step_append_any {ops : Array Oper} {o : Oper} {act : Act} {w : World} {K : Act → World → Prop} {Q : Exit → Act → World → Prop} {E : Prop} (hgd : o.guard = none) (s x : Operand)
    (ho : o.op = .call { callee := .builtin .append, args := #[s, x], argTypes := #[22, 22] })
    (B : Nat) (a : Option Addr) (n c : Nat) (xs : List Int) (hs : act.eval s = .slice a n c) (hown : OwnI w B a n c xs)
    (p : Option Addr) (m d : Nat) (ys : List Int) (hx : act.eval x = .slice p m d) (hy : SlI w p m d ys) (hn : n + m < 4194304) (hB : B ≤ w.heap.size)
    (h : ∀ a' c' w', OwnI w' B a' (n + m) c' (xs ++ ys) → Below B w w' → K (act.put o.dst (.slice a' (n + m) c')) w') :
    if Region.wanted o (yielded ops act.tmps) = true then Oper.wp Try.prog o act w K Q else E := by
  have hw : Region.wanted o (yielded ops act.tmps) = true := by simp [Region.wanted, hgd]
  rw [if_pos hw]
  obtain ⟨i0, hi, hz0, hz1, hz2⟩ := info_parts infoInt
  cases p with
  | some p =>
    refine wp_append_own w s x 22 ho B 3 i0 (.int .i64 0) 1 8 Try.underlying22 hi hz0 hz1 hz2 rfl (by decide) _ n _ hs hown.2 p m d (ys.map (.int .i64)) hx (by rw [List.length_map, hy.2.1, Nat.mul_one]) ?_ (ints_oneCell _ _) (by unfold maxLen; omega) (by omega) hB ?_
    · intro j u hu
      obtain ⟨v, hv, rfl⟩ : ∃ v, ys[j]? = some v ∧ u = .int .i64 v := by
        rw [List.getElem?_map] at hu
        cases hj : ys[j]? with
        | none => rw [hj] at hu; cases hu
        | some v => rw [hj] at hu; exact ⟨v, rfl, (Option.some.inj hu).symm⟩
      obtain ⟨b, o', h1, h2⟩ := hy.1 j v hv
      obtain rfl := Option.some.inj h1
      rw [Addr.add_lit]; exact h2
    · intro v' w' h1 h2 _
      obtain ⟨a', c', rfl⟩ := own_slice h1
      exact h a' c' w' ⟨by rw [List.length_append, hown.1, hy.2.1], by rw [List.map_append]; exact h1⟩ (grownBy_below h2 hB fun k hk => (hown.2.lt k hk).1)
  | none =>
    obtain rfl : ys = [] := by
      cases ys with
      | nil => rfl
      | cons y ys => obtain ⟨b, o', h1, _⟩ := hy.1 0 y rfl; cases h1
    obtain rfl : m = 0 := hy.2.1.symm
    obtain rfl : d = 0 := hy.2.2.2.2 rfl
    unfold Oper.wp execOp
    simp only [ho, resolve, invoke, builtin, Sem.run_bind, Sem.run_pure, Result.andThen_ok, List.map_toArray, List.map_cons, List.map_nil, hs, hx, run_append_owned_none (P := Try.prog) w B 22 o.type 3 i0 1 Try.underlying22 hi _ n _ hown.2]
    have h' := h a c w (by simpa using hown) (Below.refl _ _)
    exact h'

/-- Without the place k, counted from 0. -/
def wo (xs : List Int) (k : Nat) : List Int := pat (xs.take k ++ xs.drop (k + 1))

set_option maxHeartbeats 2000000 in
set_option maxRecDepth 100000 in
theorem l7Without_any (a : Option Addr) (n c k : Nat) (xs : List Int) (w : World) (h : SlI w a n c xs) (hk : k < n) (h8 : n ≤ 1048576) :
    Calls Try.prog 81 #[.slice a n c, .int .i64 (k : Int)] w (RetI w (wo xs k)) := by
  have HN : Hid (xs.length = n) := h.2.1
  have hnc := h.2.2.2.1
  obtain ⟨ab, ao, v, rfl, _, _⟩ := h.1.at (i := k) (by rw [HN.out]; exact hk)
  have h1 : ∀ W, Below w.heap.size w W → SlI W (some ⟨ab, ao, none⟩) k c (xs.take k) := fun W hb => ⟨(h.1.below hb).take k, by rw [List.length_take, HN.out]; omega, by omega, by omega, by simp⟩
  have h2 : ∀ W, Below w.heap.size w W → SlI W (some ⟨ab, ao + (k + 1), none⟩) (n - (k + 1)) (c - (k + 1)) (xs.drop (k + 1)) := fun W hb => ⟨(h.1.below hb).drop (k + 1), by rw [List.length_drop, HN.out], by omega, by omega, by simp⟩
  have H1 := Lib.hid h1
  have H2 := Lib.hid h2
  have HE : Hid (wo xs k = pat (([] ++ xs.take k) ++ xs.drop (k + 1))) := rfl
  clear h1 h2 h
  have HO : OwnI ((w.alloc (.cells #[] 3)).drew) w.heap.size (some ⟨w.heap.size, 0, none⟩) 0 0 [] := OwnI.lit0 w
  have HB0 : Below w.heap.size w ((w.alloc (.cells #[] 3)).drew) := (below_alloc w _).drew
  have e1 : IntKind.i64.wrap ((k : Int) + 1) = (k : Int) + 1 := IntWalk.i64_in _ (by omega)
  have HD : Hid ((xs.drop (k + 1)).length = n - (k + 1) ∧ (xs.take k).length = k) := ⟨by rw [List.length_drop, HN.out], by rw [List.length_take, HN.out]; omega⟩
  by_cases hck : c = k + 1
  · have hnk : n = k + 1 := by omega
    have HX : Hid (xs.drop (k + 1) = []) := by
      apply List.eq_nil_of_length_eq_zero; rw [HD.out.1]; omega
    subst hck hnk
    have g1 : (k : Int) ≤ (k : Int) + 1 := by omega
    have g2 : (0 : Int) ≤ (k : Int) + 1 := by omega
    have HW : Hid (wo xs k = pat (xs.take k)) := by show _ = _; unfold wo; rw [HX.out, List.append_nil]
    go_enter Try.func81, Try.ntmps81
    go_wp2_with fail
    go_region_law ((first
      | (refine step_append_any rfl _ _ rfl w.heap.size _ _ _ _ rfl HO _ _ _ _ rfl (H1.out _ HB0) (by omega) HB0.size ?_; intro a1 c1 w1 ho1 hb1; have ho1' : OwnI w1 w.heap.size a1 k c1 (xs.take k) := (by simpa using ho1); have hbw1 := HB0.trans hb1)
      | (refine step_append_any rfl _ _ rfl w.heap.size _ _ _ _ rfl ho1' _ 0 0 [] rfl ⟨Ints.nil _ _, rfl, by omega, by omega, fun _ => rfl⟩ (by omega) hbw1.size ?_; intro a2 c2 w2 ho2 hb2; have ho2' : OwnI w2 w.heap.size a2 k c2 (xs.take k) := (by simpa using ho2); have hbw2 := hbw1.trans hb2)
      | (go_simp; go_at_call 84; refine (l2Pattern_any _ _ _ _ _ (ho2'.sl (by omega))).mono ?_; rintro e w3 ⟨a3, n3, c3, rfl, ho3, hb3⟩)))
    all_goals
      have hbw3 := hbw2.trans (hb3.mono hbw2.size)
      rw [← HW.out] at ho3
      go_wp2
      go_ret
      exact ⟨_, _, _, rfl, ho3.mono hbw2.size, hbw3⟩
  · have g1 : (k : Int) ≤ (c : Int) := by omega
    have g2 : (k : Int) + 1 ≤ (n : Int) := by omega
    have g3 : (n : Int) ≤ (c : Int) := by omega
    have g4 : (0 : Int) ≤ (k : Int) + 1 := by omega
    have HW : Hid (wo xs k = pat (xs.take k ++ xs.drop (k + 1))) := rfl
    go_enter Try.func81, Try.ntmps81
    go_wp2_with fail
    go_region_law ((first
      | (refine step_append_any rfl _ _ rfl w.heap.size _ _ _ _ rfl HO _ _ _ _ rfl (H1.out _ HB0) (by omega) HB0.size ?_; intro a1 c1 w1 ho1 hb1; have ho1' : OwnI w1 w.heap.size a1 k c1 (xs.take k) := (by simpa using ho1); have hbw1 := HB0.trans hb1)
      | (refine step_append_any rfl _ _ rfl w.heap.size _ _ _ _ rfl ho1' _ _ _ _ rfl (H2.out _ hbw1) (by omega) hbw1.size ?_; intro a2 c2 w2 ho2 hb2; have hbw2 := hbw1.trans hb2)
      | (go_simp; go_at_call 84; refine (l2Pattern_any _ _ _ _ _ (ho2.sl (by omega))).mono ?_; rintro e w3 ⟨a3, n3, c3, rfl, ho3, hb3⟩)))
    all_goals
      have hbw3 := hbw2.trans (hb3.mono hbw2.size)
      rw [← HW.out] at ho3
      go_wp2
      go_ret
      exact ⟨_, _, _, rfl, ho3.mono hbw2.size, hbw3⟩
end Go.Proofs.Ythkhbdgameoakaa
