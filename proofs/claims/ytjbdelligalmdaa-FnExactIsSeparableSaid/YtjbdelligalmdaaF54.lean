/- SplitPerm of both sides, and the depth of a tree. No condition. -/
import Derived.Test.YtjbdelligalmdaaF53
namespace Go.Proofs.Ytjbdelligalmdaa
open Go.RowKit

def SpOk (xs : List Int) : Prop := Perm8 xs ∧ 1 ≤ xs.length
instance (xs : List Int) : Decidable (SpOk xs) := by unfold SpOk; infer_instance
def splRP (xs : List Int) : List Int := if SpOk xs then splR xs else []
def splPP (xs : List Int) : List (List Int) := if SpOk xs then splP xs else []
/-- What an inflation and a truth value, given back, are. -/
def RetSB (w : World) (xs : List Int) (xss : List (List Int)) (bb : Bool) (e : Ending) (w' : World) : Prop :=
  ∃ a n c b m d, e = .returned (.tuple #[.agg #[.slice a n c, .slice b m d], .bool bb]) ∧ OwnInf w' w.heap.size w'.heap.size a n c xs b m d xss ∧ Below w.heap.size w w'
theorem results_cellTmp {fn : Func} {p q : Tmp} {ty : TypeId} (h : fn.results = #[.cell p ty, .tmp q]) (tmps : Array Value) (P : Program) (w : World) :
    (results fn tmps).run P w = ((asAddr (tmps.getD p undef)).run P w).andThen fun a w1 => ((loadVar ty a).run P w1).andThen fun v w2 => .ok (.tuple #[v, tmps.getD q undef]) w2 := by
  simp only [results, h]
  simp [Sem.run_bind, Result.andThen]
theorem OwnInf.nil (w : World) (lo hi : Nat) : OwnInf w lo hi none 0 0 [] none 0 0 [] :=
  ⟨[], ⟨rfl, rfl, World.ownsRow_nil _ _ _ _, by simp, by simp, by simp⟩, ⟨OwnI.nil _ _, by simp⟩, by simp⟩


set_option maxHeartbeats 1000000 in
theorem impl_SplitPerm (a : Option Addr) (n c : Nat) (xs : List Int) (w : World) (h : SlI w a n c xs) :
    Calls Try.prog 43 #[.slice a n c] w (RetSB w (splRP xs) (splPP xs) (decide (SpOk xs))) := by
  have HN : Hid (xs.length = n) := h.2.1
  have hb0 := below_alloc w (.cells #[.slice none 0 0, .slice none 0 0] 42)
  have hI := impl_IsPerm a n c xs _ (h.below hb0)
  by_cases hok : SpOk xs
  · have e1 : splRP xs = splR xs := if_pos hok
    have e2 : splPP xs = splP xs := if_pos hok
    have hn : 1 ≤ n := by have h1 := hok.2; have h2 := HN.out; omega
    have hp : Hid (Perm8 xs) := hok.1
    rw [decide_eq_true hok.1] at hI
    rw [e1, e2, decide_eq_true hok]
    have hn0 : ((n : Int) == 0) = false := by rw [beq_eq_false_iff_ne]; omega
    clear e1 e2 hok
    go_enter Try.func43, Try.ntmps43
    go_wp2_with fail
    refine hI.mono ?_
    rintro e w1 ⟨rfl, hb1⟩
    have hsz1 : w.heap.size + 1 ≤ w1.heap.size := by have := hb1.size; simpa using this
    have hlt1 : w.heap.size < w1.heap.size := by omega
    have t1 : w1.cell? ⟨w.heap.size, 0, none⟩ = some (.slice none 0 0) := cellThru hb1 (by simp) (by simp)
    have t2 : w1.cell? ⟨w.heap.size, 1, none⟩ = some (.slice none 0 0) := cellThru hb1 (by simp) (by simp)
    have f1 : w1.frozen? ⟨w.heap.size, 0, none⟩ = false := frozenThru hb1 (by simp) (by simp)
    have f2 : w1.frozen? ⟨w.heap.size, 1, none⟩ = false := frozenThru hb1 (by simp) (by simp)
    have hbw1 : Below w.heap.size w w1 := hb0.trans (hb1.mono (by simp))
    have hS := split_any a n c xs w1 (h.below hbw1) hp hn
    clear hI hn0
    go_wp2_with fail
    refine hS.mono ?_
    rintro e w2 ⟨ra, rn, rc, pb, pm, pd, rfl, ho, hb2⟩
    have u1 := cellThru hb2 hlt1 t1
    have u2 := cellThru hb2 hlt1 t2
    have k1 := frozenThru hb2 hlt1 f1
    have k2 := frozenThru hb2 hlt1 f2
    have hlt2 := Nat.lt_of_lt_of_le hlt1 hb2.size
    have hbw2 : Below w.heap.size w w2 := hbw1.trans (hb2.mono hbw1.size)
    have HO := Lib.hid ho
    clear hS t1 t2 f1 f2 ho
    go_wp2
    (try simp only [Exit.inBlock, Exit.then])
    refine bodyPost_ret (v := .tuple #[.agg #[.slice ra rn rc, .slice pb pm pd], .bool true]) ?_ rfl ?_
    · rw [results_cellTmp rfl]
      go_simp
    · have hou : Out w.heap.size (w.heap.size + 1) w2 ((w2.setCell ⟨w.heap.size, 0, none⟩ (.slice ra rn rc)).setCell ⟨w.heap.size, 1, none⟩ (.slice pb pm pd)) := (out_setCell (by simp) (by simp) _).trans (out_setCell (by simp) (by simp) _)
      exact ⟨_, _, _, _, _, _, rfl, ((HO.out.out hou (.inr (by omega))).mono (by omega) (by simp)), (hbw2.setCell (by simp) _).setCell (by simp) _⟩
  · have e1 : splRP xs = [] := if_neg hok
    have e2 : splPP xs = [] := if_neg hok
    rw [e1, e2, decide_eq_false hok]
    have hcase : (decide (Perm8 xs) = true ∧ n = 0) ∨ decide (Perm8 xs) = false := by
      by_cases hp : Perm8 xs
      · refine .inl ⟨decide_eq_true hp, ?_⟩
        have h1 := HN.out
        by_cases h2 : n = 0
        · exact h2
        · exact absurd ⟨hp, by omega⟩ hok
      · exact .inr (decide_eq_false hp)
    clear e1 e2 hok
    rcases hcase with ⟨hd, rfl⟩ | hd
    all_goals
      rw [hd] at hI
      clear hd
      go_enter Try.func43, Try.ntmps43
      go_wp2_with fail
      refine hI.mono ?_
      rintro e w1 ⟨rfl, hb1⟩
      have hsz1 : w.heap.size + 1 ≤ w1.heap.size := by have := hb1.size; simpa using this
      have hlt1 : w.heap.size < w1.heap.size := by omega
      have t1 : w1.cell? ⟨w.heap.size, 0, none⟩ = some (.slice none 0 0) := cellThru hb1 (by simp) (by simp)
      have t2 : w1.cell? ⟨w.heap.size, 1, none⟩ = some (.slice none 0 0) := cellThru hb1 (by simp) (by simp)
      have f1 : w1.frozen? ⟨w.heap.size, 0, none⟩ = false := frozenThru hb1 (by simp) (by simp)
      have f2 : w1.frozen? ⟨w.heap.size, 1, none⟩ = false := frozenThru hb1 (by simp) (by simp)
      have hbw1 : Below w.heap.size w w1 := hb0.trans (hb1.mono (by simp))
      clear hI
      go_wp2
      (try simp only [Exit.inBlock, Exit.then])
      refine bodyPost_ret (v := .tuple #[.agg #[.slice none 0 0, .slice none 0 0], .bool false]) ?_ rfl ?_
      · rw [results_cellTmp rfl]
        go_simp
      · exact ⟨_, _, _, _, _, _, rfl, OwnInf.nil _ _ _, (hbw1.setCell (by simp) _).setCell (by simp) _⟩

set_option maxHeartbeats 1000000 in
theorem spec_SplitPerm (a : Option Addr) (n c : Nat) (xs : List Int) (w : World) (h : SlI w a n c xs) :
    Calls Try.prog 42 #[.slice a n c] w (RetSB w (splRP xs) (splPP xs) (decide (SpOk xs))) := by
  have HN : Hid (xs.length = n) := h.2.1
  have hb0 := below_alloc w (.cells #[.slice none 0 0, .slice none 0 0] 42)
  have hI := spec_IsPerm a n c xs _ (h.below hb0)
  by_cases hok : SpOk xs
  · have e1 : splRP xs = splR xs := if_pos hok
    have e2 : splPP xs = splP xs := if_pos hok
    have hn : 1 ≤ n := by have h1 := hok.2; have h2 := HN.out; omega
    have hp : Hid (Perm8 xs) := hok.1
    rw [decide_eq_true hok.1] at hI
    rw [e1, e2, decide_eq_true hok]
    have hn0 : ((n : Int) == 0) = false := by rw [beq_eq_false_iff_ne]; omega
    clear e1 e2 hok
    go_enter Try.func42, Try.ntmps42
    go_wp2_with fail
    refine hI.mono ?_
    rintro e w1 ⟨rfl, hb1⟩
    have hsz1 : w.heap.size + 1 ≤ w1.heap.size := by have := hb1.size; simpa using this
    have hlt1 : w.heap.size < w1.heap.size := by omega
    have t1 : w1.cell? ⟨w.heap.size, 0, none⟩ = some (.slice none 0 0) := cellThru hb1 (by simp) (by simp)
    have t2 : w1.cell? ⟨w.heap.size, 1, none⟩ = some (.slice none 0 0) := cellThru hb1 (by simp) (by simp)
    have f1 : w1.frozen? ⟨w.heap.size, 0, none⟩ = false := frozenThru hb1 (by simp) (by simp)
    have f2 : w1.frozen? ⟨w.heap.size, 1, none⟩ = false := frozenThru hb1 (by simp) (by simp)
    have hbw1 : Below w.heap.size w w1 := hb0.trans (hb1.mono (by simp))
    have hS := l6Split_any a n c xs w1 (h.below hbw1) hp hn
    clear hI hn0
    go_wp2_with fail
    refine hS.mono ?_
    rintro e w2 ⟨ra, rn, rc, pb, pm, pd, rfl, ho, hb2⟩
    have u1 := cellThru hb2 hlt1 t1
    have u2 := cellThru hb2 hlt1 t2
    have k1 := frozenThru hb2 hlt1 f1
    have k2 := frozenThru hb2 hlt1 f2
    have hlt2 := Nat.lt_of_lt_of_le hlt1 hb2.size
    have hbw2 : Below w.heap.size w w2 := hbw1.trans (hb2.mono hbw1.size)
    have HO := Lib.hid ho
    clear hS t1 t2 f1 f2 ho
    go_wp2
    (try simp only [Exit.inBlock, Exit.then])
    refine bodyPost_ret (v := .tuple #[.agg #[.slice ra rn rc, .slice pb pm pd], .bool true]) ?_ rfl ?_
    · rw [results_cellTmp rfl]
      go_simp
    · have hou : Out w.heap.size (w.heap.size + 1) w2 ((w2.setCell ⟨w.heap.size, 0, none⟩ (.slice ra rn rc)).setCell ⟨w.heap.size, 1, none⟩ (.slice pb pm pd)) := (out_setCell (by simp) (by simp) _).trans (out_setCell (by simp) (by simp) _)
      exact ⟨_, _, _, _, _, _, rfl, ((HO.out.out hou (.inr (by omega))).mono (by omega) (by simp)), (hbw2.setCell (by simp) _).setCell (by simp) _⟩
  · have e1 : splRP xs = [] := if_neg hok
    have e2 : splPP xs = [] := if_neg hok
    rw [e1, e2, decide_eq_false hok]
    have hcase : (decide (Perm8 xs) = true ∧ n = 0) ∨ decide (Perm8 xs) = false := by
      by_cases hp : Perm8 xs
      · refine .inl ⟨decide_eq_true hp, ?_⟩
        have h1 := HN.out
        by_cases h2 : n = 0
        · exact h2
        · exact absurd ⟨hp, by omega⟩ hok
      · exact .inr (decide_eq_false hp)
    clear e1 e2 hok
    rcases hcase with ⟨hd, rfl⟩ | hd
    all_goals
      rw [hd] at hI
      clear hd
      go_enter Try.func42, Try.ntmps42
      go_wp2_with fail
      refine hI.mono ?_
      rintro e w1 ⟨rfl, hb1⟩
      have hsz1 : w.heap.size + 1 ≤ w1.heap.size := by have := hb1.size; simpa using this
      have hlt1 : w.heap.size < w1.heap.size := by omega
      have t1 : w1.cell? ⟨w.heap.size, 0, none⟩ = some (.slice none 0 0) := cellThru hb1 (by simp) (by simp)
      have t2 : w1.cell? ⟨w.heap.size, 1, none⟩ = some (.slice none 0 0) := cellThru hb1 (by simp) (by simp)
      have f1 : w1.frozen? ⟨w.heap.size, 0, none⟩ = false := frozenThru hb1 (by simp) (by simp)
      have f2 : w1.frozen? ⟨w.heap.size, 1, none⟩ = false := frozenThru hb1 (by simp) (by simp)
      have hbw1 : Below w.heap.size w w1 := hb0.trans (hb1.mono (by simp))
      clear hI
      go_wp2
      (try simp only [Exit.inBlock, Exit.then])
      refine bodyPost_ret (v := .tuple #[.agg #[.slice none 0 0, .slice none 0 0], .bool false]) ?_ rfl ?_
      · rw [results_cellTmp rfl]
        go_simp
      · exact ⟨_, _, _, _, _, _, rfl, OwnInf.nil _ _ _, (hbw1.setCell (by simp) _).setCell (by simp) _⟩

theorem snocInd {α : Type} {motive : List α → Prop} (nil : motive []) (snoc : ∀ l x, motive l → motive (l ++ [x])) (l : List α) : motive l := by
  have : ∀ n (l : List α), l.length = n → motive l := by
    intro n
    induction n with
    | zero => intro l h; rw [List.length_eq_zero_iff.1 h]; exact nil
    | succ n ih =>
      intro l h
      have hne : l ≠ [] := by intro e; rw [e] at h; cases h
      rw [← List.dropLast_concat_getLast hne]
      exact snoc _ _ (ih _ (by rw [List.length_dropLast]; omega))
  exact this _ l rfl

/-- The greatest of a list, at least 0. -/
def mxs (l : List Int) : Int := l.foldl max 0
theorem mxs_snoc (l : List Int) (x : Int) : mxs (l ++ [x]) = max (mxs l) x := by simp [mxs]
theorem mxs_take {f : List Int → Int} {L : List (List Int)} {k : Nat} {q : List Int} (h : L[k]? = some q) : mxs ((L.take (k + 1)).map f) = max (mxs ((L.take k).map f)) (f q) := by
  have h1 : L.take (k + 1) = L.take k ++ [q] := by rw [List.take_add_one, h]; rfl
  rw [h1, List.map_append]; exact mxs_snoc _ _
theorem mxs_bd {l : List Int} {g : Int} (hg : 0 ≤ g) (h : ∀ x ∈ l, 0 ≤ x ∧ x ≤ g) : 0 ≤ mxs l ∧ mxs l ≤ g := by
  induction l using snocInd with
  | nil => exact ⟨Int.le_refl _, hg⟩
  | snoc l x ih =>
    have h1 := ih (fun y hy => h y (by simp [hy]))
    have h2 := h x (by simp)
    rw [mxs_snoc]; omega
theorem mxs_one {l : List Int} (h : ∀ x ∈ l, 0 ≤ x) (hl : l ≠ []) : mxs (l.map (fun x => 1 + x)) = mxs l + 1 := by
  induction l using snocInd with
  | nil => exact absurd rfl hl
  | snoc l x ih =>
    have h2 := h x (by simp)
    rw [List.map_append, List.map_cons, List.map_nil, mxs_snoc, mxs_snoc]
    cases l with
    | nil => simp [mxs]; omega
    | cons y ys =>
      rw [ih (fun z hz => h z (List.mem_append_left _ hz)) (by simp)]
      omega
/-- The depth of the tree of a permutation, with fuel. -/
def dep : Nat → List Int → Int
  | 0, _ => 0
  | g + 1, xs => if xs.length = 1 then 0 else mxs ((splP xs).map (dep g)) + 1
theorem dep_bd : ∀ (g : Nat) (xs : List Int), 0 ≤ dep g xs ∧ dep g xs ≤ g
  | 0, _ => ⟨Int.le_refl _, Int.le_refl _⟩
  | g + 1, xs => by
    unfold dep
    split
    · omega
    · have := mxs_bd (l := (splP xs).map (dep g)) (g := g) (by omega) (fun x hx => by obtain ⟨q, _, rfl⟩ := List.mem_map.1 hx; exact dep_bd g q)
      omega
theorem field_parts (ra : Option Addr) (rn rc : Nat) (pb : Option Addr) (pm pd : Nat) : ∀ w : World, (Instr.field 42 (.agg #[.slice ra rn rc, .slice pb pm pd]) 1).run Try.prog w = .ok (.slice pb pm pd) w := fun _ => by kernel_rfl
theorem field_root (ra : Option Addr) (rn rc : Nat) (pb : Option Addr) (pm pd : Nat) : ∀ w : World, (Instr.field 42 (.agg #[.slice ra rn rc, .slice pb pm pd]) 0).run Try.prog w = .ok (.slice ra rn rc) w := fun _ => by kernel_rfl
def depP (xs : List Int) : Int := if SpOk xs then dep 8 xs else -1
theorem iis_parts {w : World} {lo hi : Nat} {pb : Option Addr} {pm pd : Nat} {xs : List Int} (h : OwnII w lo hi pb pm pd (splP xs)) (hp : Perm8 xs) (h2 : 2 ≤ xs.length) : IIs w pb pm pd (splP xs) ∧ pm ≤ 8 ∧ 1 ≤ pm ∧ Hid (∀ q ∈ splP xs, Perm8 q ∧ 1 ≤ q.length ∧ q.length < xs.length) := by
  obtain ⟨h3, h4, h5⟩ := splP_spec hp h2
  have h6 := h.len
  refine ⟨h.iis (by omega) (fun q hq => ?_), by omega, by omega, h3⟩
  have h7 := (h3 q hq).1.1
  omega

set_option maxHeartbeats 1000000 in
theorem treeDepth_any : ∀ (g : Nat), g ≤ 8 → ∀ (a : Option Addr) (n c : Nat) (xs : List Int) (w : World), SlI w a n c xs → Hid (Perm8 xs) → 1 ≤ n → n ≤ g →
    Calls Try.prog 80 #[.slice a n c] w (RetV w (.int .i64 (dep g xs))) := by
  intro g
  induction g with
  | zero => intros; omega
  | succ g ih =>
    intro hg8 a n c xs w h hp hn hg
    have HN : Hid (xs.length = n) := h.2.1
    by_cases hn1 : n = 1
    · have e : dep (g + 1) xs = 0 := by unfold dep; rw [if_pos (by rw [HN.out, hn1])]
      rw [e]; clear e
      subst hn1
      go_enter Try.func80, Try.ntmps80
      go_wp2
      go_ret
      exact ⟨rfl, Below.refl _ _⟩
    · have e : dep (g + 1) xs = mxs ((splP xs).map (dep g)) + 1 := by unfold dep; rw [if_neg (by rw [HN.out]; exact hn1)]
      have IH := Lib.hid (ih (by omega))
      have hS := split_any a n c xs w h hp hn
      have hn2 : 2 ≤ n := by omega
      have hn1' : ((n : Int) == 1) = false := by rw [beq_eq_false_iff_ne]; omega
      clear ih
      obtain ⟨E, hE⟩ : ∃ E, E = mxs ((splP xs).map (dep g)) + 1 := ⟨_, rfl⟩
      rw [e, ← hE]; clear e
      have HE := Lib.hid hE
      clear hE
      go_enter Try.func80, Try.ntmps80
      go_wp2_with fail
      refine hS.mono ?_
      rintro e w1 ⟨ra, rn, rc, pb, pm, pd, rfl, ho, hb⟩
      obtain ⟨hii, hpm8, hpm1, HQ⟩ := iis_parts ho.parts hp.out (by rw [HN.out]; exact hn2)
      obtain ⟨L, hL⟩ : ∃ L, L = splP xs := ⟨_, rfl⟩
      rw [← hL] at hii HQ
      have HL0 := Lib.hid hL
      have HL : Hid (L.length = pm) := hii.2.1
      clear hS hL ho
      have hfd := field_parts ra rn rc pb pm pd
      go_wp2
      go_loopw [3, 13] (fun mv kv wr => ∃ (M : Int) (k : Nat), k ≤ pm ∧ 0 ≤ M ∧ M ≤ 8 ∧ mv = .int .i64 M ∧ kv = .int .i64 k ∧ Hid (M = mxs ((L.take k).map (dep g))) ∧ Below w1.heap.size w1 wr) (fun _ kv _ => pm - (intOf kv).toNat)
      case atStart => exact ⟨0, 0, Nat.zero_le _, by omega, by omega, by go_num, by go_num, rfl, Below.refl _ _⟩
      case round =>
        obtain ⟨M, k, hk, hM0, hM8, rfl, rfl, HM, hbr⟩ := hrel
        by_cases hlt : k < pm
        · obtain ⟨qb, qo, qa, qn, qc, q, rfl, hx, hq, HX⟩ := (hii.below hbr).at hlt
          have hqm : q ∈ L := List.mem_of_getElem? HX.out
          obtain ⟨HP, hq1, hq2⟩ := HQ.out q hqm
          have hql := hq.2.1
          have hC := IH.out qa qn qc q wr hq HP (by omega) (by have := HN.out; omega)
          have hd := dep_bd g q
          have HM2 : Hid (max M (dep g q) = mxs ((L.take (k + 1)).map (dep g))) := by show _ = _; rw [mxs_take HX.out, ← HM.out]
          obtain ⟨D, hD⟩ : ∃ D, D = dep g q := ⟨_, rfl⟩
          rw [← hD] at hd HM2 hC
          obtain ⟨hd0, hd8'⟩ := hd
          have hd8 : D ≤ 8 := by omega
          have hmx0 : 0 ≤ max M D := by omega
          have hmx8 : max M D ≤ 8 := by omega
          clear hD HP hq1 hq2 hql hq hqm hd8'
          go_wp2_with fail
          refine hC.mono ?_
          rintro e w2 ⟨rfl, hb2⟩
          have hbn : Below w1.heap.size w1 w2 := hbr.trans (hb2.mono hbr.size)
          clear hC hb2 hbr
          go_wp2
          go_roundw
          case rel => exact ⟨max M D, k + 1, by omega, hmx0, hmx8, by go_num, by go_num, HM2, hbn⟩
          case measure => simp [intOf]; omega
        · obtain rfl : k = pm := by omega
          have HM2 : Hid (M = mxs (L.map (dep g))) := by
            have := HM.out
            rwa [List.take_of_length_le (by rw [HL.out]; exact Nat.le_refl _)] at this
          go_wp2
          go_ret
          exact ⟨by rw [HE.out, ← HL0.out, ← HM2.out]; rfl, hb.trans (hbr.mono hb.size)⟩

theorem dep8 {xs : List Int} (h : SpOk xs) : depP xs = dep 8 xs := if_pos h

set_option maxHeartbeats 1000000 in
theorem impl_TreeDepth (a : Option Addr) (n c : Nat) (xs : List Int) (w : World) (h : SlI w a n c xs) :
    Calls Try.prog 48 #[.slice a n c] w (RetV w (.int .i64 (depP xs))) := by
  have HN : Hid (xs.length = n) := h.2.1
  have hI := impl_IsPerm a n c xs w h
  by_cases hok : SpOk xs
  · rw [dep8 hok]
    have hn : 1 ≤ n := by have h1 := hok.2; have h2 := HN.out; omega
    have h8 : n ≤ 8 := by have h1 := hok.1.1; have h2 := HN.out; omega
    have hp : Hid (Perm8 xs) := hok.1
    rw [decide_eq_true hok.1] at hI
    have hn0 : ((n : Int) == 0) = false := by rw [beq_eq_false_iff_ne]; omega
    clear hok
    go_enter Try.func48, Try.ntmps48
    go_wp2_with fail
    refine hI.mono ?_
    rintro e w1 ⟨rfl, hb1⟩
    have hD := treeDepth_any 8 (Nat.le_refl _) a n c xs w1 (h.below hb1) hp hn h8
    clear hI
    go_wp2_with fail
    refine hD.mono ?_
    rintro e w2 ⟨rfl, hb2⟩
    clear hD
    go_wp2
    go_ret
    exact ⟨rfl, hb1.trans (hb2.mono hb1.size)⟩
  · have e1 : depP xs = -1 := if_neg hok
    rw [e1]
    have hcase : (decide (Perm8 xs) = true ∧ n = 0) ∨ decide (Perm8 xs) = false := by
      by_cases hp : Perm8 xs
      · refine .inl ⟨decide_eq_true hp, ?_⟩
        have h1 := HN.out
        by_cases h2 : n = 0
        · exact h2
        · exact absurd ⟨hp, by omega⟩ hok
      · exact .inr (decide_eq_false hp)
    clear e1 hok
    rcases hcase with ⟨hd, rfl⟩ | hd
    all_goals
      rw [hd] at hI
      clear hd
      go_enter Try.func48, Try.ntmps48
      go_wp2_with fail
      refine hI.mono ?_
      rintro e w1 ⟨rfl, hb1⟩
      go_wp2
      go_ret
      exact ⟨rfl, hb1⟩

/-- The reference's depth, of a permutation that is not empty. -/
theorem treeDepthS_any : ∀ (g : Nat), g ≤ 8 → ∀ (a : Option Addr) (n c : Nat) (xs : List Int) (w : World), SlI w a n c xs → Hid (Perm8 xs) → 1 ≤ n → n ≤ g →
    Calls Try.prog 47 #[.slice a n c] w (RetV w (.int .i64 (dep g xs))) := by
  intro g
  induction g with
  | zero => intros; omega
  | succ g ih =>
    intro hg8 a n c xs w h hp hn hg
    have HN : Hid (xs.length = n) := h.2.1
    have hok : SpOk xs := ⟨hp.out, by rw [HN.out]; exact hn⟩
    have hS := spec_SplitPerm a n c xs w h
    rw [show splRP xs = splR xs from if_pos hok, show splPP xs = splP xs from if_pos hok, decide_eq_true hok] at hS
    clear hok
    by_cases hn1 : n = 1
    · have e : dep (g + 1) xs = 0 := by unfold dep; rw [if_pos (by rw [HN.out, hn1])]
      rw [e]; clear e
      subst hn1
      go_enter Try.func47, Try.ntmps47
      go_wp2_with fail
      refine hS.mono ?_
      rintro e w1 ⟨ra, rn, rc, pb, pm, pd, rfl, ho, hb⟩
      clear hS
      go_wp2
      go_loopw [5, 6] (fun mv kv wr => mv = .int .i64 0 ∧ kv = .int .i64 0 ∧ wr = w1.alloc (.cells #[.slice ra rn rc, .slice pb pm pd] 42)) (fun _ kv _ => 0)
      case atStart => exact ⟨by go_num, by go_num, rfl⟩
      case round =>
        obtain ⟨rfl, rfl, rfl⟩ := hrel
        have hz : 0 ≤ (pm : Int) := by omega
        by_cases hp0 : (0 : Int) < (pm : Int)
        · go_wp2
          go_ret
          exact ⟨rfl, hb.alloc hb.size _⟩
        · go_wp2
          go_ret
          exact ⟨rfl, hb.alloc hb.size _⟩
    · have e : dep (g + 1) xs = mxs ((splP xs).map (dep g)) + 1 := by unfold dep; rw [if_neg (by rw [HN.out]; exact hn1)]
      have IH := Lib.hid (ih (by omega))
      have hn2 : 2 ≤ n := by omega
      have hn2' : (1 : Int) < (n : Int) := by omega
      clear ih
      obtain ⟨E, hE⟩ : ∃ E, E = mxs ((splP xs).map (dep g)) + 1 := ⟨_, rfl⟩
      rw [e, ← hE]; clear e
      have HE := Lib.hid hE
      clear hE
      go_enter Try.func47, Try.ntmps47
      go_wp2_with fail
      refine hS.mono ?_
      rintro e w1 ⟨ra, rn, rc, pb, pm, pd, rfl, ho, hb⟩
      obtain ⟨hii, hpm8, hpm1, HQ⟩ := iis_parts ho.parts hp.out (by rw [HN.out]; exact hn2)
      obtain ⟨L, hL⟩ : ∃ L, L = splP xs := ⟨_, rfl⟩
      rw [← hL] at hii HQ
      have HL0 := Lib.hid hL
      have HL : Hid (L.length = pm) := hii.2.1
      clear hS hL ho
      have HEND : Hid (mxs (L.map (fun q => 1 + dep g q)) = mxs (L.map (dep g)) + 1) := by
        show _ = _
        have := mxs_one (l := L.map (dep g)) (fun x hx => by obtain ⟨q, _, rfl⟩ := List.mem_map.1 hx; exact (dep_bd g q).1) (by intro e; have h1 := HL.out; rw [List.map_eq_nil_iff] at e; rw [e] at h1; simp at h1; omega)
        rw [← this, List.map_map]; rfl
      have hba := below_alloc w1 (.cells #[.slice ra rn rc, .slice pb pm pd] 42)
      go_wp2
      have hcell : (w1.alloc (.cells #[.slice ra rn rc, .slice pb pm pd] 42)).cell? ⟨w1.heap.size, 1, none⟩ = some (.slice pb pm pd) := by simp
      have hszx : w1.heap.size < (w1.alloc (.cells #[.slice ra rn rc, .slice pb pm pd] 42)).heap.size := by simp
      have hix := hii.below hba
      have hbx : Below w.heap.size w (w1.alloc (.cells #[.slice ra rn rc, .slice pb pm pd] 42)) := hb.alloc hb.size _
      generalize w1.alloc (.cells #[.slice ra rn rc, .slice pb pm pd] 42) = wx at hcell hszx hix hbx hba ⊢
      go_loopw [5, 6] (fun mv kv wr => ∃ (M : Int) (k : Nat), k ≤ pm ∧ 0 ≤ M ∧ M ≤ 9 ∧ mv = .int .i64 M ∧ kv = .int .i64 k ∧ Hid (M = mxs ((L.take k).map (fun q => 1 + dep g q))) ∧ Below wx.heap.size wx wr) (fun _ kv _ => pm - (intOf kv).toNat)
      case atStart => exact ⟨0, 0, Nat.zero_le _, by omega, by omega, by go_num, by go_num, rfl, Below.refl _ _⟩
      case round =>
        obtain ⟨M, k, hk, hM0, hM8, rfl, rfl, HM, hbr⟩ := hrel
        have hcr := cellThru hbr hszx hcell
        by_cases hlt : k < pm
        · obtain ⟨qb, qo, qa, qn, qc, q, rfl, hx, hq, HX⟩ := (hix.below hbr).at hlt
          have hqm : q ∈ L := List.mem_of_getElem? HX.out
          obtain ⟨HP, hq1, hq2⟩ := HQ.out q hqm
          have hql := hq.2.1
          have hC := IH.out qa qn qc q wr hq HP (by omega) (by have := HN.out; omega)
          have hd := dep_bd g q
          have HM2 : Hid (max M (1 + dep g q) = mxs ((L.take (k + 1)).map (fun q => 1 + dep g q))) := by show _ = _; rw [mxs_take HX.out, ← HM.out]
          obtain ⟨D, hD⟩ : ∃ D, D = dep g q := ⟨_, rfl⟩
          rw [← hD] at hd HM2 hC
          obtain ⟨hd0, hd8'⟩ := hd
          have hd8 : D ≤ 8 := by omega
          have hmx0 : 0 ≤ max M (1 + D) := by omega
          have hmx8 : max M (1 + D) ≤ 9 := by omega
          clear hD HP hq1 hq2 hql hq hqm hd8'
          go_wp2_with fail
          refine hC.mono ?_
          rintro e w2 ⟨rfl, hb2⟩
          have hbn : Below wx.heap.size wx w2 := hbr.trans (hb2.mono hbr.size)
          clear hC hb2 hbr
          have hMx := l1Max_any M (1 + D) w2
          go_wp2_with fail
          refine hMx.mono ?_
          rintro e w3 ⟨rfl, hw3⟩
          obtain rfl : w2 = w3 := hw3.symm
          clear hMx
          generalize max M (1 + D) = M2 at hmx0 hmx8 HM2 ⊢
          go_wp2
          go_roundw
          case rel => exact ⟨M2, k + 1, by omega, hmx0, hmx8, by go_num, by go_num, HM2, hbn⟩
          case measure => simp [intOf]; omega
        · obtain rfl : k = pm := by omega
          have HM2 : Hid (M = mxs (L.map (fun q => 1 + dep g q))) := by
            have := HM.out
            rwa [List.take_of_length_le (by rw [HL.out]; exact Nat.le_refl _)] at this
          go_wp2
          go_ret
          exact ⟨by rw [HE.out, ← HL0.out, ← HEND.out, ← HM2.out]; rfl, hbx.trans (hbr.mono hbx.size)⟩

set_option maxHeartbeats 1000000 in
theorem spec_TreeDepth (a : Option Addr) (n c : Nat) (xs : List Int) (w : World) (h : SlI w a n c xs) :
    Calls Try.prog 47 #[.slice a n c] w (RetV w (.int .i64 (depP xs))) := by
  by_cases hok : SpOk xs
  · rw [dep8 hok]
    exact treeDepthS_any 8 (Nat.le_refl _) a n c xs w h hok.1 (by have h1 := hok.2; have h2 := h.2.1; omega) (by have h1 := hok.1.1; have h2 := h.2.1; omega)
  · have hS := spec_SplitPerm a n c xs w h
    have e1 : depP xs = -1 := if_neg hok
    rw [e1]
    rw [show splRP xs = [] from if_neg hok, show splPP xs = [] from if_neg hok, decide_eq_false hok] at hS
    clear e1 hok
    go_enter Try.func47, Try.ntmps47
    go_wp2_with fail
    refine hS.mono ?_
    rintro e w1 ⟨ra, rn, rc, pb, pm, pd, rfl, ho, hb⟩
    clear hS
    go_wp2
    go_ret
    exact ⟨rfl, hb.alloc hb.size _⟩
end Go.Proofs.Ytjbdelligalmdaa
