/- SplitPerm of both sides, and the depth of a tree. No condition. -/
import Derived.Test.YtjhlianledgiiaaF53
namespace Go.Proofs.Ytjhlianledgiiaa
open Go.RowKit

def SpOk (xs : List Int) : Prop := Perm8 xs ∧ 1 ≤ xs.length
instance (xs : List Int) : Decidable (SpOk xs) := by unfold SpOk; infer_instance
def splRP (xs : List Int) : List Int := if SpOk xs then splR xs else []
def splPP (xs : List Int) : List (List Int) := if SpOk xs then splP xs else []
/-- What an inflation and a truth value, given back, are. -/
def RetSB (w : World) (xs : List Int) (xss : List (List Int)) (bb : Bool) (e : Ending) (w' : World) : Prop :=
  ∃ a n c b m d, e = .returned (.tuple #[.agg #[.slice a n c, .slice b m d], .bool bb]) ∧ OwnInf w' w.heap.size w'.heap.size a n c xs b m d xss ∧ Below w.heap.size w w'
theorem results_cellTmp {fn : Func} {p q : Tmp} {ty : TypeId} (h : fn.results = #[.cell p ty, .tmp q]) (tmps : Array Value) (P : Program) (w : World) :
    (results fn tmps).run P w = ((asAddr (tmps.getD p undef)).run P w).andThen fun a w1 => ((loadVar ty a).run P w1).andThen fun v w2 => .ok (.tuple #[v, tmps.getD q undef]) w2 := by
  simp only [results, h]
  simp [Sem.run_bind, Result.andThen]
theorem OwnInf.nil (w : World) (lo hi : Nat) : OwnInf w lo hi none 0 0 [] none 0 0 [] :=
  ⟨[], ⟨rfl, rfl, World.ownsRow_nil _ _ _ _, by simp, by simp, by simp⟩, ⟨OwnI.nil _ _, by simp⟩, by simp⟩


set_option maxHeartbeats 1000000 in
theorem impl_SplitPerm (a : Option Addr) (n c : Nat) (xs : List Int) (w : World) (h : SlI w a n c xs) :
    Calls Try.prog 10 #[.slice a n c] w (RetSB w (splRP xs) (splPP xs) (decide (SpOk xs))) := by
  have HN : Hid (xs.length = n) := h.2.1
  have hb0 := below_alloc w (.cells #[.slice none 0 0, .slice none 0 0] 25)
  have hI := impl_IsPerm a n c xs _ (h.below hb0)
  by_cases hok : SpOk xs
  · have e1 : splRP xs = splR xs := if_pos hok
    have e2 : splPP xs = splP xs := if_pos hok
    have hn : 1 ≤ n := by have h1 := hok.2; have h2 := HN.out; omega
    have hp : Hid (Perm8 xs) := hok.1
    rw [decide_eq_true hok.1] at hI
    rw [e1, e2, decide_eq_true hok]
    have hn0 : ((n : Int) == 0) = false := by rw [beq_eq_false_iff_ne]; omega
    clear e1 e2 hok
    go_enter Try.func10, Try.ntmps10
    go_wp2_with fail
    refine hI.mono ?_
    rintro e w1 ⟨rfl, hb1⟩
    have hsz1 : w.heap.size + 1 ≤ w1.heap.size := by have := hb1.size; simpa using this
    have hlt1 : w.heap.size < w1.heap.size := by omega
    have t1 : w1.cell? ⟨w.heap.size, 0, none⟩ = some (.slice none 0 0) := cellThru hb1 (by simp) (by simp)
    have t2 : w1.cell? ⟨w.heap.size, 1, none⟩ = some (.slice none 0 0) := cellThru hb1 (by simp) (by simp)
    have f1 : w1.frozen? ⟨w.heap.size, 0, none⟩ = false := frozenThru hb1 (by simp) (by simp)
    have f2 : w1.frozen? ⟨w.heap.size, 1, none⟩ = false := frozenThru hb1 (by simp) (by simp)
    have hbw1 : Below w.heap.size w w1 := hb0.trans (hb1.mono (by simp))
    have hS := split_any a n c xs w1 (h.below hbw1) hp hn
    clear hI hn0
    go_wp2_with fail
    refine hS.mono ?_
    rintro e w2 ⟨ra, rn, rc, pb, pm, pd, rfl, ho, hb2⟩
    have u1 := cellThru hb2 hlt1 t1
    have u2 := cellThru hb2 hlt1 t2
    have k1 := frozenThru hb2 hlt1 f1
    have k2 := frozenThru hb2 hlt1 f2
    have hlt2 := Nat.lt_of_lt_of_le hlt1 hb2.size
    have hbw2 : Below w.heap.size w w2 := hbw1.trans (hb2.mono hbw1.size)
    have HO := Lib.hid ho
    clear hS t1 t2 f1 f2 ho
    go_wp2
    (try simp only [Exit.inBlock, Exit.then])
    refine bodyPost_ret (v := .tuple #[.agg #[.slice ra rn rc, .slice pb pm pd], .bool true]) ?_ rfl ?_
    · rw [results_cellTmp rfl]
      go_simp
    · have hou : Out w.heap.size (w.heap.size + 1) w2 ((w2.setCell ⟨w.heap.size, 0, none⟩ (.slice ra rn rc)).setCell ⟨w.heap.size, 1, none⟩ (.slice pb pm pd)) := (out_setCell (by simp) (by simp) _).trans (out_setCell (by simp) (by simp) _)
      exact ⟨_, _, _, _, _, _, rfl, ((HO.out.out hou (.inr (by omega))).mono (by omega) (by simp)), (hbw2.setCell (by simp) _).setCell (by simp) _⟩
  · have e1 : splRP xs = [] := if_neg hok
    have e2 : splPP xs = [] := if_neg hok
    rw [e1, e2, decide_eq_false hok]
    have hcase : (decide (Perm8 xs) = true ∧ n = 0) ∨ decide (Perm8 xs) = false := by
      by_cases hp : Perm8 xs
      · refine .inl ⟨decide_eq_true hp, ?_⟩
        have h1 := HN.out
        by_cases h2 : n = 0
        · exact h2
        · exact absurd ⟨hp, by omega⟩ hok
      · exact .inr (decide_eq_false hp)
    clear e1 e2 hok
    rcases hcase with ⟨hd, rfl⟩ | hd
    all_goals
      rw [hd] at hI
      clear hd
      go_enter Try.func10, Try.ntmps10
      go_wp2_with fail
      refine hI.mono ?_
      rintro e w1 ⟨rfl, hb1⟩
      have hsz1 : w.heap.size + 1 ≤ w1.heap.size := by have := hb1.size; simpa using this
      have hlt1 : w.heap.size < w1.heap.size := by omega
      have t1 : w1.cell? ⟨w.heap.size, 0, none⟩ = some (.slice none 0 0) := cellThru hb1 (by simp) (by simp)
      have t2 : w1.cell? ⟨w.heap.size, 1, none⟩ = some (.slice none 0 0) := cellThru hb1 (by simp) (by simp)
      have f1 : w1.frozen? ⟨w.heap.size, 0, none⟩ = false := frozenThru hb1 (by simp) (by simp)
      have f2 : w1.frozen? ⟨w.heap.size, 1, none⟩ = false := frozenThru hb1 (by simp) (by simp)
      have hbw1 : Below w.heap.size w w1 := hb0.trans (hb1.mono (by simp))
      clear hI
      go_wp2
      (try simp only [Exit.inBlock, Exit.then])
      refine bodyPost_ret (v := .tuple #[.agg #[.slice none 0 0, .slice none 0 0], .bool false]) ?_ rfl ?_
      · rw [results_cellTmp rfl]
        go_simp
      · exact ⟨_, _, _, _, _, _, rfl, OwnInf.nil _ _ _, (hbw1.setCell (by simp) _).setCell (by simp) _⟩

set_option maxHeartbeats 1000000 in
theorem spec_SplitPerm (a : Option Addr) (n c : Nat) (xs : List Int) (w : World) (h : SlI w a n c xs) :
    Calls Try.prog 8 #[.slice a n c] w (RetSB w (splRP xs) (splPP xs) (decide (SpOk xs))) := by
  have HN : Hid (xs.length = n) := h.2.1
  have hb0 := below_alloc w (.cells #[.slice none 0 0, .slice none 0 0] 25)
  have hI := spec_IsPerm a n c xs _ (h.below hb0)
  by_cases hok : SpOk xs
  · have e1 : splRP xs = splR xs := if_pos hok
    have e2 : splPP xs = splP xs := if_pos hok
    have hn : 1 ≤ n := by have h1 := hok.2; have h2 := HN.out; omega
    have hp : Hid (Perm8 xs) := hok.1
    rw [decide_eq_true hok.1] at hI
    rw [e1, e2, decide_eq_true hok]
    have hn0 : ((n : Int) == 0) = false := by rw [beq_eq_false_iff_ne]; omega
    clear e1 e2 hok
    go_enter Try.func8, Try.ntmps8
    go_wp2_with fail
    refine hI.mono ?_
    rintro e w1 ⟨rfl, hb1⟩
    have hsz1 : w.heap.size + 1 ≤ w1.heap.size := by have := hb1.size; simpa using this
    have hlt1 : w.heap.size < w1.heap.size := by omega
    have t1 : w1.cell? ⟨w.heap.size, 0, none⟩ = some (.slice none 0 0) := cellThru hb1 (by simp) (by simp)
    have t2 : w1.cell? ⟨w.heap.size, 1, none⟩ = some (.slice none 0 0) := cellThru hb1 (by simp) (by simp)
    have f1 : w1.frozen? ⟨w.heap.size, 0, none⟩ = false := frozenThru hb1 (by simp) (by simp)
    have f2 : w1.frozen? ⟨w.heap.size, 1, none⟩ = false := frozenThru hb1 (by simp) (by simp)
    have hbw1 : Below w.heap.size w w1 := hb0.trans (hb1.mono (by simp))
    have hS := l6Split_any a n c xs w1 (h.below hbw1) hp hn
    clear hI hn0
    go_wp2_with fail
    refine hS.mono ?_
    rintro e w2 ⟨ra, rn, rc, pb, pm, pd, rfl, ho, hb2⟩
    have u1 := cellThru hb2 hlt1 t1
    have u2 := cellThru hb2 hlt1 t2
    have k1 := frozenThru hb2 hlt1 f1
    have k2 := frozenThru hb2 hlt1 f2
    have hlt2 := Nat.lt_of_lt_of_le hlt1 hb2.size
    have hbw2 : Below w.heap.size w w2 := hbw1.trans (hb2.mono hbw1.size)
    have HO := Lib.hid ho
    clear hS t1 t2 f1 f2 ho
    go_wp2
    (try simp only [Exit.inBlock, Exit.then])
    refine bodyPost_ret (v := .tuple #[.agg #[.slice ra rn rc, .slice pb pm pd], .bool true]) ?_ rfl ?_
    · rw [results_cellTmp rfl]
      go_simp
    · have hou : Out w.heap.size (w.heap.size + 1) w2 ((w2.setCell ⟨w.heap.size, 0, none⟩ (.slice ra rn rc)).setCell ⟨w.heap.size, 1, none⟩ (.slice pb pm pd)) := (out_setCell (by simp) (by simp) _).trans (out_setCell (by simp) (by simp) _)
      exact ⟨_, _, _, _, _, _, rfl, ((HO.out.out hou (.inr (by omega))).mono (by omega) (by simp)), (hbw2.setCell (by simp) _).setCell (by simp) _⟩
  · have e1 : splRP xs = [] := if_neg hok
    have e2 : splPP xs = [] := if_neg hok
    rw [e1, e2, decide_eq_false hok]
    have hcase : (decide (Perm8 xs) = true ∧ n = 0) ∨ decide (Perm8 xs) = false := by
      by_cases hp : Perm8 xs
      · refine .inl ⟨decide_eq_true hp, ?_⟩
        have h1 := HN.out
        by_cases h2 : n = 0
        · exact h2
        · exact absurd ⟨hp, by omega⟩ hok
      · exact .inr (decide_eq_false hp)
    clear e1 e2 hok
    rcases hcase with ⟨hd, rfl⟩ | hd
    all_goals
      rw [hd] at hI
      clear hd
      go_enter Try.func8, Try.ntmps8
      go_wp2_with fail
      refine hI.mono ?_
      rintro e w1 ⟨rfl, hb1⟩
      have hsz1 : w.heap.size + 1 ≤ w1.heap.size := by have := hb1.size; simpa using this
      have hlt1 : w.heap.size < w1.heap.size := by omega
      have t1 : w1.cell? ⟨w.heap.size, 0, none⟩ = some (.slice none 0 0) := cellThru hb1 (by simp) (by simp)
      have t2 : w1.cell? ⟨w.heap.size, 1, none⟩ = some (.slice none 0 0) := cellThru hb1 (by simp) (by simp)
      have f1 : w1.frozen? ⟨w.heap.size, 0, none⟩ = false := frozenThru hb1 (by simp) (by simp)
      have f2 : w1.frozen? ⟨w.heap.size, 1, none⟩ = false := frozenThru hb1 (by simp) (by simp)
      have hbw1 : Below w.heap.size w w1 := hb0.trans (hb1.mono (by simp))
      clear hI
      go_wp2
      (try simp only [Exit.inBlock, Exit.then])
      refine bodyPost_ret (v := .tuple #[.agg #[.slice none 0 0, .slice none 0 0], .bool false]) ?_ rfl ?_
      · rw [results_cellTmp rfl]
        go_simp
      · exact ⟨_, _, _, _, _, _, rfl, OwnInf.nil _ _ _, (hbw1.setCell (by simp) _).setCell (by simp) _⟩

theorem snocInd {α : Type} {motive : List α → Prop} (nil : motive []) (snoc : ∀ l x, motive l → motive (l ++ [x])) (l : List α) : motive l := by
  have : ∀ n (l : List α), l.length = n → motive l := by
    intro n
    induction n with
    | zero => intro l h; rw [List.length_eq_zero_iff.1 h]; exact nil
    | succ n ih =>
      intro l h
      have hne : l ≠ [] := by intro e; rw [e] at h; cases h
      rw [← List.dropLast_concat_getLast hne]
      exact snoc _ _ (ih _ (by rw [List.length_dropLast]; omega))
  exact this _ l rfl

/-- The greatest of a list, at least 0. -/
def mxs (l : List Int) : Int := l.foldl max 0
theorem mxs_snoc (l : List Int) (x : Int) : mxs (l ++ [x]) = max (mxs l) x := by simp [mxs]
theorem mxs_take {f : List Int → Int} {L : List (List Int)} {k : Nat} {q : List Int} (h : L[k]? = some q) : mxs ((L.take (k + 1)).map f) = max (mxs ((L.take k).map f)) (f q) := by
  have h1 : L.take (k + 1) = L.take k ++ [q] := by rw [List.take_add_one, h]; rfl
  rw [h1, List.map_append]; exact mxs_snoc _ _
theorem mxs_bd {l : List Int} {g : Int} (hg : 0 ≤ g) (h : ∀ x ∈ l, 0 ≤ x ∧ x ≤ g) : 0 ≤ mxs l ∧ mxs l ≤ g := by
  induction l using snocInd with
  | nil => exact ⟨Int.le_refl _, hg⟩
  | snoc l x ih =>
    have h1 := ih (fun y hy => h y (by simp [hy]))
    have h2 := h x (by simp)
    rw [mxs_snoc]; omega
theorem mxs_one {l : List Int} (h : ∀ x ∈ l, 0 ≤ x) (hl : l ≠ []) : mxs (l.map (fun x => 1 + x)) = mxs l + 1 := by
  induction l using snocInd with
  | nil => exact absurd rfl hl
  | snoc l x ih =>
    have h2 := h x (by simp)
    rw [List.map_append, List.map_cons, List.map_nil, mxs_snoc, mxs_snoc]
    cases l with
    | nil => simp [mxs]; omega
    | cons y ys =>
      rw [ih (fun z hz => h z (List.mem_append_left _ hz)) (by simp)]
      omega
/-- The depth of the tree of a permutation, with fuel. -/
def dep : Nat → List Int → Int
  | 0, _ => 0
  | g + 1, xs => if xs.length = 1 then 0 else mxs ((splP xs).map (dep g)) + 1
theorem dep_bd : ∀ (g : Nat) (xs : List Int), 0 ≤ dep g xs ∧ dep g xs ≤ g
  | 0, _ => ⟨Int.le_refl _, Int.le_refl _⟩
  | g + 1, xs => by
    unfold dep
    split
    · omega
    · have := mxs_bd (l := (splP xs).map (dep g)) (g := g) (by omega) (fun x hx => by obtain ⟨q, _, rfl⟩ := List.mem_map.1 hx; exact dep_bd g q)
      omega
theorem field_parts (ra : Option Addr) (rn rc : Nat) (pb : Option Addr) (pm pd : Nat) : ∀ w : World, (Instr.field 25 (.agg #[.slice ra rn rc, .slice pb pm pd]) 1).run Try.prog w = .ok (.slice pb pm pd) w := fun _ => by kernel_rfl
theorem field_root (ra : Option Addr) (rn rc : Nat) (pb : Option Addr) (pm pd : Nat) : ∀ w : World, (Instr.field 25 (.agg #[.slice ra rn rc, .slice pb pm pd]) 0).run Try.prog w = .ok (.slice ra rn rc) w := fun _ => by kernel_rfl
def depP (xs : List Int) : Int := if SpOk xs then dep 8 xs else -1
theorem iis_parts {w : World} {lo hi : Nat} {pb : Option Addr} {pm pd : Nat} {xs : List Int} (h : OwnII w lo hi pb pm pd (splP xs)) (hp : Perm8 xs) (h2 : 2 ≤ xs.length) : IIs w pb pm pd (splP xs) ∧ pm ≤ 8 ∧ 1 ≤ pm ∧ Hid (∀ q ∈ splP xs, Perm8 q ∧ 1 ≤ q.length ∧ q.length < xs.length) := by
  obtain ⟨h3, h4, h5⟩ := splP_spec hp h2
  have h6 := h.len
  refine ⟨h.iis (by omega) (fun q hq => ?_), by omega, by omega, h3⟩
  have h7 := (h3 q hq).1.1
  omega

theorem dep8 {xs : List Int} (h : SpOk xs) : depP xs = dep 8 xs := if_pos h

end Go.Proofs.Ytjhlianledgiiaa
