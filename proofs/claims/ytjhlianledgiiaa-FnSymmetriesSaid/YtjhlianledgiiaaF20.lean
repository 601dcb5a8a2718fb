/- The walks of slices.Index and slices.Contains on slices of integers; a row appended to a slice of slices. Conditions: the length is at most 2^21. -/
import Derived.Test.YtjhlianledgiiaaF18
namespace Go.Proofs.Ytjhlianledgiiaa
open Go.RowKit

set_option maxHeartbeats 400000 in
theorem slicesIndex_not (a : Option Addr) (n c : Nat) (xs : List Int) (v : Int) (w : World) (ha : SlI w a n c xs) (hv : Hid (v ∉ xs)) :
    Calls Try.prog 144 #[.slice a n c, .int .i64 v] w fun e w' => e = .returned (.int .i64 (-1)) ∧ w' = w := by
  have HN : Hid (xs.length = n) := ha.2.1
  have hnb := ha.2.2.1
  go_enter Try.func144, Try.ntmps144
  go_wp2
  go_loop [8, 5] (fun i _ => ∃ k : Nat, k ≤ n ∧ i = .int .i64 k) (fun i _ => n - (intOf i).toNat)
  case atStart => exact ⟨0, Nat.zero_le _, rfl⟩
  case round =>
    obtain ⟨k, hk, rfl⟩ := hrel
    by_cases hlt : k < n
    · obtain ⟨ab, ao, x, rfl, hx, HX⟩ := ha.1.at (i := k) (by rw [HN.out]; exact hlt)
      have hne : ¬ v = x := fun e => hv.out (by rw [e]; exact List.mem_of_getElem? HX.out)
      go_wp2
      go_round
      case rel => exact ⟨k + 1, by omega, by go_num⟩
      case measure => simp [intOf]; omega
    · go_wp2
      go_ret
      exact ⟨rfl, rfl⟩
set_option maxHeartbeats 400000 in
theorem slicesIndex_at (a : Option Addr) (n c : Nat) (xs : List Int) (v : Int) (j : Nat) (w : World) (ha : SlI w a n c xs) (hj : j < n) (hv : Hid (xs[j]? = some v)) (hf : Hid (v ∉ xs.take j)) :
    Calls Try.prog 144 #[.slice a n c, .int .i64 v] w fun e w' => e = .returned (.int .i64 (j : Int)) ∧ w' = w := by
  have HN : Hid (xs.length = n) := ha.2.1
  have hnb := ha.2.2.1
  go_enter Try.func144, Try.ntmps144
  go_wp2
  go_loop [8, 5] (fun i _ => ∃ k : Nat, k ≤ j ∧ i = .int .i64 k) (fun i _ => n - (intOf i).toNat)
  case atStart => exact ⟨0, Nat.zero_le _, rfl⟩
  case round =>
    obtain ⟨k, hk, rfl⟩ := hrel
    obtain ⟨ab, ao, x, rfl, hx, HX⟩ := ha.1.at (i := k) (by rw [HN.out]; omega)
    by_cases hlt : k < j
    · have hne : ¬ v = x := fun e => hf.out (by
        rw [e]
        refine List.mem_of_getElem? (i := k) ?_
        rw [List.getElem?_take_of_lt hlt]; exact HX.out)
      go_wp2
      go_round
      case rel => exact ⟨k + 1, by omega, by go_num⟩
      case measure => simp [intOf]; omega
    · obtain rfl : k = j := by omega
      have hne : v = x := by have h1 := HX.out; rw [hv.out] at h1; exact Option.some.inj h1
      subst hne
      go_wp2
      go_ret
      exact ⟨rfl, rfl⟩
theorem first_of_mem {xs : List Int} {v : Int} (h : v ∈ xs) : ∃ j, j < xs.length ∧ xs[j]? = some v ∧ v ∉ xs.take j := by
  induction xs with
  | nil => cases h
  | cons x xs ih =>
    by_cases hx : v = x
    · exact ⟨0, by simp, by simp [hx], by simp⟩
    · rcases List.mem_cons.1 h with h | h
      · exact absurd h hx
      · obtain ⟨j, h1, h2, h3⟩ := ih h
        exact ⟨j + 1, by simp; omega, by simpa using h2, by simp [hx, h3]⟩

set_option maxHeartbeats 400000 in
theorem slicesContains_any (a : Option Addr) (n c : Nat) (xs : List Int) (v : Int) (b : Bool) (w : World) (ha : SlI w a n c xs) (hb : Hid (b = decide (v ∈ xs))) :
    Calls Try.prog 131 #[.slice a n c, .int .i64 v] w fun e w' => e = .returned (.bool b) ∧ w' = w := by
  by_cases hv : v ∈ xs
  · obtain ⟨j, h1, h2, h3⟩ := first_of_mem hv
    have hnb := ha.2.2.1
    have hj : j < n := by rw [← ha.2.1]; exact h1
    clear h1
    obtain rfl : b = true := by rw [hb.out, decide_eq_true hv]
    clear hb hv
    have hI := slicesIndex_at a n c xs v j w ha hj h2 h3
    clear h2 h3
    go_enter Try.func131, Try.ntmps131
    go_wp2_with fail
    refine hI.mono ?_
    rintro e w1 ⟨rfl, rfl⟩
    go_wp2
    go_ret
    exact ⟨rfl, rfl⟩
  · obtain rfl : b = false := by rw [hb.out, decide_eq_false hv]
    have hI := slicesIndex_not a n c xs v w ha hv
    clear hb hv
    go_enter Try.func131, Try.ntmps131
    go_wp2_with fail
    refine hI.mono ?_
    rintro e w1 ⟨rfl, rfl⟩
    go_wp2
    go_ret
    exact ⟨rfl, rfl⟩

/-- All slices of integers that a call owns stay as they are. -/
def Keep (w w' : World) : Prop := ∀ B a n c xs, OwnI w B a n c xs → OwnI w' B a n c xs
theorem Keep.refl (w : World) : Keep w w := fun _ _ _ _ _ h => h
theorem Keep.trans {a b c : World} (h : Keep a b) (k : Keep b c) : Keep a c := fun _ _ _ _ _ ho => k _ _ _ _ _ (h _ _ _ _ _ ho)
theorem Below.keep {w w' : World} (h : Below w.heap.size w w') : Keep w w' := fun _ _ _ _ _ ho => ho.below h
theorem Keep.ins {w w' : World} (h : Keep w w') {lo hi n c : Nat} {a : Option Addr} {xs : List Int} (ho : OwnIn w lo hi a n c xs) : OwnIn w' lo hi a n c xs := ⟨h _ _ _ _ _ ho.1, ho.2⟩

/-- 'append(out, row)', row the call's own and no row of out; what the call owns of integers stays. -/
theorem wpList_appII' {w : World} {ops : Array Oper} {rest : List Oper} {o : Oper} {act : Act} {Q : Exit → Act → World → Prop} (hgd : o.guard = none) (s x : Operand)
    (ho : o.op = .call { callee := .builtin .append, args := #[s, x], argTypes := #[23, 23] })
    (lo hi mid : Nat) (a : Option Addr) (n c : Nat) (xss : List (List Int)) (hs : act.eval s = .slice a n c) (hown : OwnII w lo hi a n c xss)
    (ra : Option Addr) (rn rc : Nat) (xs : List Int) (hrow : OwnIn w mid w.heap.size ra rn rc xs) (hmid : hi ≤ mid ∨ n = 0) (hlo : lo ≤ mid)
    (g0 : Nat) (hx : act.eval x = .slice (some ⟨g0, 0, none⟩) 1 1) (hg0 : w.heap.size = g0) (hn : n < 4194304) (hB : lo ≤ w.heap.size) (hhi : hi ≤ w.heap.size)
    (h : ∀ a' c' w', OwnII w' lo w'.heap.size a' (n + 1) c' (xss ++ [xs]) → Below lo w w' → Keep w w' → w.heap.size ≤ w'.heap.size → wpList Try.prog ops Q rest (act.put o.dst (.slice a' (n + 1) c')) w') :
    wpList Try.prog ops Q (o :: rest) act (w.alloc (.cells #[.slice ra rn rc] 22)) := by
  subst hg0
  obtain ⟨rs, h1, h2, h3, h4, h5, h6⟩ := hown
  refine wpList_app1 hgd s x 23 ho lo 22 (.slice none 0 0) 24 Try.underlying23 infoRow rfl a n c _ hs h3 _ rfl hx hn (by omega) hB ?_
  intro a' c' w' g1 g2 g3
  have hsz : w.heap.size ≤ w'.heap.size := g3.size
  refine h a' c' w' ?_ g3 (fun B b m d ys hq => hq.grown g2 (own_types_ne hq.2 h3 (by decide))) hsz
  refine ⟨rs ++ [(ra, rn, rc)], by rw [List.length_append, h1]; rfl, by rw [List.length_append, h2]; rfl, by rw [List.map_append]; exact g1, fun p hp => ?_, ?_, ?_⟩
  · subst hp; exact (g1.lt p.block rfl).2
  · intro i r ys hr hy
    have old : ∀ (l m : Nat) (q : Option Addr × Nat × Nat) (zs : List Int), OwnIn w l m q.1 q.2.1 q.2.2 zs → lo ≤ l → m ≤ w.heap.size → OwnIn w' lo w'.heap.size q.1 q.2.1 q.2.2 zs := by
      intro l m q zs hq hl hm
      have e := hq.1.grown g2 (own_types_ne hq.1.2 h3 (by decide))
      exact ⟨e.mono hl, fun p hp => by have := hq.2 p hp; omega⟩
    rcases Nat.lt_or_ge i n with hin | hin
    · rw [List.getElem?_append_left (by omega)] at hr
      rw [List.getElem?_append_left (by omega)] at hy
      exact old lo hi r ys (h5 i r ys hr hy) (Nat.le_refl _) hhi
    · rw [List.getElem?_append_right (by omega)] at hr
      rw [List.getElem?_append_right (by omega)] at hy
      obtain rfl : i = n := by
        have := (List.getElem?_eq_some_iff.1 hr).1
        simp at this; omega
      simp only [h2, h1, Nat.sub_self, List.getElem?_cons_zero, Option.some.injEq] at hr hy
      subst hr; subst hy
      exact old mid _ _ _ hrow (by omega) (Nat.le_refl _)
  · intro i j r s' p q hij hr hs' hp hq
    have hjn : j < n + 1 := by
      have := (List.getElem?_eq_some_iff.1 hs').1
      simp [h2] at this; omega
    rw [List.getElem?_append_left (by omega)] at hr
    rcases Nat.lt_or_ge j n with hj | hj
    · rw [List.getElem?_append_left (by omega)] at hs'
      exact h6 i j r s' p q hij hr hs' hp hq
    · rw [List.getElem?_append_right (by omega)] at hs'
      obtain rfl : j = n := by omega
      simp only [h2, Nat.sub_self, List.getElem?_cons_zero, Option.some.injEq] at hs'
      subst hs'
      have hxs : xss[i]? = some _ := List.getElem?_eq_getElem (by omega)
      have b1 := (h5 i r _ hr hxs).2 p hp
      have b2 := (hrow.1.lo q hq).1
      omega
end Go.Proofs.Ytjhlianledgiiaa
