/- slices.SortFunc on the call's own list of lists, by comparePerms: the library's contract, laid here. Conditions: as the names say. -/
import Derived.Test.YtjhlianledgiiaaF39
import Derived.Test.YtjhlianledgiiaaF29
import Derived.Test.YtjhlianledgiiaaShSort
import Derived.Lib.OwnBridge
import Derived.Lib.AppendIntMem
namespace Go.Proofs.Ytjhlianledgiiaa
open Go.RowKit Go.Sort Go.Shelf

theorem comparePerms_grow (a b : Option Addr) (n m c d : Nat) (xs ys : List Int) (w : World) (h : SlI w a n c xs) (hq : SlI w b m d ys) :
    Calls Try.prog 109 #[.slice a n c, .slice b m d] w fun e w' => e = .returned (.int .i64 (cmpP xs ys)) ∧ ∃ q os', w' = grow (w.drewN q) os' := by
  have HE : Hid (orL [cmpI (n : Int) (m : Int), cmpL xs ys] = cmpP xs ys) := by
    show _ = _; rw [← cmpP_or, h.2.1, hq.2.1]
  go_enter Try.func109, Try.ntmps109
  go_wp2_with fail
  refine (cmpCompare_any _ _ _).mono ?_
  rintro e w1 ⟨rfl, rfl⟩
  go_wp2_with fail
  refine (slicesCompare_any a b n m c d xs ys _ h hq).mono ?_
  rintro e w1 ⟨rfl, rfl⟩
  go_wp2_with fail
  refine (cmpOr_any _ 2 2 [cmpI (n : Int) (m : Int), cmpL xs ys] _ ⟨cells_two, rfl, by omega, Nat.le_refl _, by simp⟩).mono ?_
  rintro e w1 ⟨rfl, rfl⟩
  go_wp2
  go_ret
  exact ⟨ret_int HE.out, 0, _, alloc_eq_grow _ _⟩

/-- What a row of the list is: the call's own, and not long. -/
structure RowT (w : World) (lo hi : Nat) where
  val : (Option Addr × Nat × Nat) × List Int
  own : OwnIn w lo hi val.1.1 val.1.2.1 val.1.2.2 val.2
  small : val.2.length ≤ 2097152
instance (w : World) (lo hi : Nat) : Inhabited (RowT w lo hi) := ⟨⟨((none, 0, 0), []), ⟨OwnI.nil _ _, fun p hp => by cases hp⟩, Nat.zero_le _⟩⟩
def encR {w : World} {lo hi : Nat} (x : RowT w lo hi) : Value := sl3 x.1.1
def cfR {w : World} {lo hi : Nat} (x y : RowT w lo hi) : Int := cmpP x.1.2 y.1.2
theorem swoR {w : World} {lo hi : Nat} : SWO (ltOf (cfR (w := w) (lo := lo) (hi := hi))) where
  irrefl x := by unfold ltOf cfR; rw [cmpP_self]; rfl
  trans x y z h1 h2 := by
    unfold ltOf cfR at *
    simp only [decide_eq_true_eq] at *
    exact cmpP_trans h1 h2
  ntrans x y z h1 h2 := by
    unfold ltOf cfR at *
    simp only [decide_eq_false_iff_not] at *
    intro h3
    rcases Int.lt_trichotomy (cmpP x.1.2 y.1.2) 0 with h | h | h
    · exact h1 h
    · have e := cmpP_eq h
      rw [e] at h3; exact h2 h3
    · have e := cmpP_neg x.1.2 y.1.2
      have h4 : cmpP y.1.2 x.1.2 < 0 := by omega
      exact h2 (cmpP_trans h4 h3)

theorem sortWorld_grownBy {α : Type} [Inhabited α] (enc : α → Value) (w : World) (g m : Nat) (dk : Array α) (os : Array Obj) : w.grownBy (sortWorld enc w g 0 m dk os) (some g) := by
  refine ⟨rfl, rfl, rfl, ?_, fun k hk hne => ?_⟩
  · simp [sortWorld, putRow, mapBlock, Sort.ahead]
  · have hne' : g ≠ k := fun e => hne (by rw [e])
    unfold sortWorld
    have hs : (putRow enc (Sort.ahead w m) g 0 dk).heap.size = w.heap.size := by simp [putRow, mapBlock, Sort.ahead]
    simp only [grow]
    rw [Array.getElem?_append_left (by rw [hs]; exact hk)]
    simp [putRow, mapBlock, Sort.ahead, Array.getElem?_modify, hne']

theorem zip_map_fst {α β : Type} : ∀ (l : List α) (m : List β), l.length = m.length → (l.zip m).map (·.1) = l
  | [], [], _ => rfl
  | [], _ :: _, h => by simp at h
  | _ :: _, [], h => by simp at h
  | x :: l, y :: m, h => by simp only [List.zip_cons_cons, List.map_cons]; rw [zip_map_fst l m (by simpa using h)]
theorem zip_map_snd {α β : Type} : ∀ (l : List α) (m : List β), l.length = m.length → (l.zip m).map (·.2) = m
  | [], [], _ => rfl
  | [], _ :: _, h => by simp at h
  | _ :: _, [], h => by simp at h
  | x :: l, y :: m, h => by simp only [List.zip_cons_cons, List.map_cons]; rw [zip_map_snd l m (by simpa using h)]

/-- A list of lists that the call owns, as an array of rows. -/
theorem rowsOf {w : World} {lo hi n c : Nat} {a : Option Addr} {rs : List (Option Addr × Nat × Nat)} {xss : List (List Int)} (h : OwnIIr w lo hi a n c rs xss) (hl : ∀ xs ∈ xss, xs.length ≤ 2097152) :
    ∃ zs : List (RowT w lo hi), zs.map (fun z => z.1.1) = rs ∧ zs.map (fun z => z.1.2) = xss ∧ zs.Pairwise (fun x y => ∀ p q, x.1.1.1 = some p → y.1.1.1 = some q → p.block ≠ q.block) := by
  obtain ⟨h1, h2, h3, h4, h5, h6⟩ := h
  have hlen : rs.length = xss.length := by rw [h1, h2]
  have hall : ∀ p ∈ rs.zip xss, OwnIn w lo hi p.1.1 p.1.2.1 p.1.2.2 p.2 ∧ p.2.length ≤ 2097152 := by
    intro p hp
    obtain ⟨i, hi⟩ := List.getElem?_of_mem hp
    rw [List.getElem?_zip_eq_some] at hi
    exact ⟨h5 i p.1 p.2 hi.1 hi.2, hl _ (List.mem_of_getElem? hi.2)⟩
  refine ⟨(rs.zip xss).pmap (fun p hp => (⟨p, hp.1, hp.2⟩ : RowT w lo hi)) hall, ?_, ?_, ?_⟩
  · rw [List.map_pmap]; simp only [List.pmap_eq_map]; exact zip_map_fst _ _ hlen
  · rw [List.map_pmap]; simp only [List.pmap_eq_map]; exact zip_map_snd _ _ hlen
  · rw [List.pairwise_iff_getElem]
    intro i j hi hj hij p q hp hq
    simp only [List.getElem_pmap, List.getElem_zip] at hp hq
    have hi' : i < rs.length := by simp at hi; omega
    have hj' : j < rs.length := by simp at hj; omega
    exact h6 i j _ _ p q hij (List.getElem?_eq_getElem hi') (List.getElem?_eq_getElem hj') hp hq

theorem rowSl {w w' : World} {lo hi g : Nat} (x : RowT w lo hi) (hg : w.grownBy w' (some g)) (hne : (sl3 x.1.1).ownBlock = none ∨ (sl3 x.1.1).ownBlock ≠ some g) : OwnIn w' lo hi x.1.1.1 x.1.1.2.1 x.1.1.2.2 x.1.2 :=
  ⟨x.own.1.grown hg hne, x.own.2⟩

set_option maxHeartbeats 1000000 in
theorem sortRows_any (a : Option Addr) (n c lo hi : Nat) (rs : List (Option Addr × Nat × Nat)) (xss : List (List Int)) (w : World) (ho : OwnIIr w lo hi a n c rs xss) (hn : n ≤ 2097152) (hl : ∀ xs ∈ xss, xs.length ≤ 2097152) :
    Calls Try.prog 124 #[.slice a n c, .func (.func 109) #[] #[]] w fun e w' =>
      e = .returned (.tuple #[]) ∧ ∃ yss, yss.Perm xss ∧ Wsc yss ∧ OwnII w' lo hi a n c yss ∧ w.grownBy w' (Value.slice a n c).ownBlock := by
  by_cases h0 : n = 0
  · subst h0
    have hx : xss = [] := List.eq_nil_of_length_eq_zero ho.1
    subst hx
    have hcon := AnyF.slices_SortFunc_none (P := Try.prog) { Try.sortL with } a c (.func (.func 109) #[] #[]) w
    change Calls Try.prog 124 _ _ _ at hcon
    refine hcon.mono ?_
    rintro e w' ⟨rfl, rfl⟩
    exact ⟨rfl, [], List.Perm.refl _, fun i j _ hj => by simp at hj, ⟨rs, ho⟩, World.grownBy.refl _ _⟩
  · obtain ⟨g, cur, rfl, hgl, hgh⟩ := own_head ho.2.2.1 (by omega)
    obtain ⟨zs, hz1, hz2, hz3⟩ := rowsOf ho hl
    have hzl : zs.length = n := by have := congrArg List.length hz1; rw [List.length_map, ho.2.1] at this; exact this
    have henc : zs.map encR = rs.map sl3 := by rw [← hz1, List.map_map]; rfl
    have hown : w.ownsRow lo 22 1 (.slice (some ⟨g, 0, none⟩) n c) n (zs.map encR) := by rw [henc]; exact ho.2.2.1
    obtain ⟨g', cap, hv, hg1, hg2, hg3, hg4, _, hH⟩ := Go.Lib.holds_of_ownsRow hown (by simp)
    simp only [Value.slice.injEq, Option.some.injEq, Addr.mk.injEq, and_true, true_and] at hv
    obtain ⟨rfl, rfl⟩ := hv
    have hne : ∀ x : RowT w lo hi, (sl3 x.1.1).ownBlock = none ∨ (sl3 x.1.1).ownBlock ≠ some g := fun x => own_types_ne x.own.1.2 hown (by decide)
    have eg : ∀ args w, (callFunc 109 args).run Try.prog w = .ok (.enter 109 args) w := enters_of Try.func109 (by kernel_rfl) rfl
    have hcmp : CmpLays1 Try.prog 109 #[] (encR (w := w) (lo := lo) (hi := hi)) cfR g 0 zs.toArray.size w := by
      intro m os dk _ x y
      have hx := rowSl x (sortWorld_grownBy encR w g m dk os) (hne x)
      have hy := rowSl y (sortWorld_grownBy encR w g m dk os) (hne y)
      have h1 : x.1.1.2.1 ≤ 2097152 := by have h2 := x.small; have h3 := x.own.1.1; omega
      have h2 : y.1.1.2.1 ≤ 2097152 := by have h2 := y.small; have h3 := y.own.1.1; omega
      exact comparePerms_grow _ _ _ _ _ _ _ _ _ (hx.sl h1) (hy.sl h2)
    have hcon := Any.slices_SortFunc Try.sortL (encR (w := w) (lo := lo) (hi := hi)) (fun _ => rfl) cfR swoR 109 #[] g 0 c zs.toArray w eg hcmp hH hg2 (by simp; omega)
    have hsz : zs.toArray.size = n := by simpa using hzl
    rw [hsz] at hcon
    change Calls Try.prog 124 _ _ _ at hcon
    refine hcon.mono ?_
    rintro e w' ⟨rfl, d', m, os, hperm, hsort, rfl⟩
    obtain ⟨hp1, _, hp3⟩ := hperm
    have hd' : d'.size = n := by rw [hp1]; exact hsz
    have hpl : d'.toList.Perm zs := by
      have e1 : (d'.extract 0 n).toList = d'.toList := by simp [← hd']
      have e2 : (zs.toArray.extract 0 n).toList = zs := by simp [← hzl]
      rw [e1, e2] at hp3; exact hp3
    have hgr := sortWorld_grownBy (encR (w := w) (lo := lo) (hi := hi)) w g m d' os
    have hxl : (d'.toList.map fun z => z.1.2).length = n := by simpa using hd'
    refine ⟨rfl, d'.toList.map (fun z => z.1.2), by rw [← hz2]; exact hpl.map _, ?_, ⟨d'.toList.map (fun z => z.1.1), hxl, by simpa using hd', ?_, ho.2.2.2.1, ?_, ?_⟩, hgr⟩
    · intro i j hij hj
      rw [hxl] at hj
      have h1 := hsort i j (Nat.zero_le _) hij hj
      unfold ltOf cfR at h1
      simp only [decide_eq_false_iff_not] at h1
      have gi : (d'.toList.map fun z => z.1.2).getD i [] = (d'[i]!).1.2 := by
        rw [getElem!_pos d' i (by omega)]
        simp [List.getD, show i < d'.size by omega]
      have gj : (d'.toList.map fun z => z.1.2).getD j [] = (d'[j]!).1.2 := by
        rw [getElem!_pos d' j (by omega)]
        simp [List.getD, show j < d'.size by omega]
      rw [gi, gj]; exact h1
    · have h1 := Go.Lib.ownsRow_putRow (q := m) (k := n) hown (ys := d'.toList) (by simpa using hd') (Nat.le_refl _)
      have h2 := Go.Lib.ownsRow_grow h1 0 os
      rw [List.take_of_length_le (by simp [hd'])] at h2
      have e1 : d'.toList.map encR = (d'.toList.map fun z => z.1.1).map sl3 := by rw [List.map_map]; rfl
      rw [e1] at h2
      exact h2
    · intro i r xs hr hx
      rw [List.getElem?_map] at hr hx
      cases hz : d'.toList[i]? with
      | none => rw [hz] at hr; cases hr
      | some z =>
        rw [hz] at hr hx
        cases hr; cases hx
        exact rowSl z hgr (hne z)
    · have hpw : d'.toList.Pairwise (fun x y => ∀ p q, x.1.1.1 = some p → y.1.1.1 = some q → p.block ≠ q.block) :=
        (hpl.pairwise_iff (fun hxy p q hp hq => (hxy q p hq hp).symm)).2 hz3
      intro i j r s p q hij hr hs hp hq
      rw [List.getElem?_map] at hr hs
      cases hzi : d'.toList[i]? with
      | none => rw [hzi] at hr; cases hr
      | some z =>
        cases hzj : d'.toList[j]? with
        | none => rw [hzj] at hs; cases hs
        | some y =>
          rw [hzi] at hr; rw [hzj] at hs
          cases hr; cases hs
          obtain ⟨hi', hi2⟩ := List.getElem?_eq_some_iff.1 hzi
          obtain ⟨hj', hj2⟩ := List.getElem?_eq_some_iff.1 hzj
          have := List.pairwise_iff_getElem.1 hpw i j hi' hj' hij p q (by rw [hi2]; exact hp) (by rw [hj2]; exact hq)
          exact this
end Go.Proofs.Ytjhlianledgiiaa
