/- An inflation that the call owns: marked, looked at, compared. Conditions: the lengths are at most 2^21, all together at most 2^31. -/
import Derived.Test.YtjhlianledgiiaaF54
import Derived.Test.YtjhlianledgiiaaF18
namespace Go.Proofs.Ytjhlianledgiiaa
open Go.RowKit

/-- A block of two cells. -/
def Bx (w : World) (s : Nat) (u v : Value) : Prop := w.cell? ⟨s, 0, none⟩ = some u ∧ w.cell? ⟨s, 1, none⟩ = some v ∧ s < w.heap.size
theorem Bx.below {w w' : World} {s : Nat} {u v : Value} (h : Bx w s u v) (hb : Below w.heap.size w w') : Bx w' s u v :=
  ⟨cellThru hb h.2.2 h.1, cellThru hb h.2.2 h.2.1, Nat.lt_of_lt_of_le h.2.2 hb.size⟩
theorem Bx.new (w : World) (u v : Value) (t : TypeId) : Bx (w.alloc (.cells #[u, v] t)) w.heap.size u v :=
  ⟨by rw [World.cell?_alloc_at (hn := rfl)]; rfl, by rw [World.cell?_alloc_at (hn := rfl)]; rfl, by simp⟩
theorem Bx.out {w w' : World} {lo hi s : Nat} {u v : Value} (h : Bx w s u v) (ho : Out lo hi w w') (hs : s < lo ∨ hi ≤ s) : Bx w' s u v :=
  ⟨(World.cell?_of_block (w := w) (ho.block s h.2.2 hs)).trans h.1, (World.cell?_of_block (w := w) (ho.block s h.2.2 hs)).trans h.2.1, Nat.lt_of_lt_of_le h.2.2 ho.size⟩

set_option maxHeartbeats 600000 in
theorem eqInf_same (a : Option Addr) (n c : Nat) (xs : List Int) (b : Option Addr) (m d : Nat) (xss : List (List Int)) (a' : Option Addr) (n' c' : Nat) (b' : Option Addr) (m' d' : Nat) (w : World)
    (h1 : SlI w a n c xs) (h2 : IIs w b m d xss) (h3 : SlI w a' n' c' xs) (h4 : IIs w b' m' d' xss) :
    Calls Try.prog 11 #[.agg #[.slice a n c, .slice b m d], .agg #[.slice a' n' c', .slice b' m' d']] w (RetV w (.bool true)) := by
  have hbx := below_alloc w (.cells #[.slice a n c, .slice b m d] 25)
  have hby := hbx.alloc hbx.size (.cells #[.slice a' n' c', .slice b' m' d'] 25)
  have x1 := (Bx.new w (.slice a n c) (.slice b m d) 25).below (below_alloc _ (.cells #[.slice a' n' c', .slice b' m' d'] 25))
  have x2 := Bx.new (w.alloc (.cells #[.slice a n c, .slice b m d] 25)) (.slice a' n' c') (.slice b' m' d') 25
  have c1 := eqIntS_same a a' n n' c c' xs _ (h1.below hby) (h3.below hby)
  have H2 := Lib.hid h2
  have H4 := Lib.hid h4
  have X1 := Lib.hid x1
  have X2 := Lib.hid x2
  clear h1 h2 h3 h4 x1 x2
  go_enter Try.func11, Try.ntmps11
  go_wp2_with fail
  refine c1.mono ?_
  rintro e w1 ⟨rfl, hb1⟩
  obtain ⟨p1, p2, _⟩ := X1.out.below hb1
  obtain ⟨q1, q2, _⟩ := X2.out.below hb1
  simp only [World.size_alloc] at q1 q2
  have hbw : Below w.heap.size w w1 := hby.trans (hb1.mono hby.size)
  clear c1 hbx
  go_wp2_with fail
  refine (eqIntSS_same b b' m m' d d' xss w1 (H2.out.below hbw) (H4.out.below hbw)).mono ?_
  rintro e w2 ⟨rfl, hb2⟩
  go_wp2
  go_ret
  exact ⟨rfl, hbw.trans (hb2.mono hbw.size)⟩

/-- One row of what the call owns may be written anew; the rows lie where they lay. -/
theorem OwnIIr.rowSet {w : World} {lo hi n c : Nat} {a : Option Addr} {rs : List (Option Addr × Nat × Nat)} {xss : List (List Int)} (h : OwnIIr w lo hi a n c rs xss) {k : Nat} {r : Option Addr × Nat × Nat} (hr : rs[k]? = some r) :
    ∀ w' ys, OwnIn w' lo hi r.1 r.2.1 r.2.2 ys → w.grownBy w' (Value.slice r.1 r.2.1 r.2.2).ownBlock → OwnIIr w' lo hi a n c rs (xss.set k ys) := by
  obtain ⟨h1, h2, h3, h4, h5, h6⟩ := h
  have hk : k < n := by rw [← h2]; exact (List.getElem?_eq_some_iff.1 hr).1
  obtain ⟨g, cur, rfl, _, _⟩ := own_head h3 (by omega)
  have hx : xss[k]? = some _ := List.getElem?_eq_getElem (by rw [h1]; exact hk)
  have hrow := h5 k _ _ hr hx
  intro w' ys ho hg
  have hne : (Value.slice (some ⟨g, 0, none⟩) n c).ownBlock = none ∨ (Value.slice (some ⟨g, 0, none⟩) n c).ownBlock ≠ (Value.slice r.1 r.2.1 r.2.2).ownBlock := own_types_ne h3 hrow.1.2 (by decide)
  refine ⟨by simp [h1], h2, ?_, h4, ?_, h6⟩
  · refine ⟨h3.1, ?_⟩
    rcases h3.2 with hh | ⟨g', cap, cur', e1, e2, e3, e4⟩
    · exact .inl hh
    · refine .inr ⟨g', cap, cur', e1, e2, ?_, e4⟩
      simp only [Value.slice.injEq] at e1
      obtain rfl : g = g' := by simpa using e1.1
      refine (hg.block g (Array.getElem?_eq_some_iff.1 e3).1 ?_).trans e3
      rcases hne with hne | hne
      · simp [Value.ownBlock] at hne
      · simpa [Value.ownBlock] using hne
  · intro i r2 zs hri hzi
    by_cases hik : i = k
    · subst hik
      rw [List.getElem?_set_self (by rw [h1]; exact hk)] at hzi
      cases hzi
      rw [hr] at hri; cases hri
      exact ho
    · rw [List.getElem?_set_ne (Ne.symm hik)] at hzi
      have hi := h5 i r2 zs hri hzi
      refine ⟨hi.1.grown hg ?_, hi.2⟩
      obtain ⟨qa, qn, qc⟩ := r
      obtain ⟨ra, rn, rc⟩ := r2
      cases ra with
      | none => exact .inl rfl
      | some pa =>
        refine .inr ?_
        intro e
        cases qa with
        | none => simp [Value.ownBlock] at e
        | some qb =>
          simp only [Value.ownBlock, Option.some.injEq] at e
          rcases Nat.lt_or_gt_of_ne hik with hlt | hlt
          · exact h6 i k _ _ _ _ hlt hri hr rfl rfl e
          · exact h6 k i _ _ _ _ hlt hr hri rfl rfl e.symm
/-- .. the root beside it too. -/
theorem OwnInf.row {w : World} {lo hi : Nat} {a : Option Addr} {n c : Nat} {xs : List Int} {b : Option Addr} {m d : Nat} {xss : List (List Int)} (h : OwnInf w lo hi a n c xs b m d xss) {k : Nat} (hk : k < m) :
    ∃ g ra rn rc ys, b = some ⟨g, 0, none⟩ ∧ w.cell? ⟨g, k, none⟩ = some (.slice ra rn rc) ∧ OwnIn w lo hi ra rn rc ys ∧ Hid (xss[k]? = some ys) ∧
      ∀ w' zs, OwnIn w' lo hi ra rn rc zs → w.grownBy w' (Value.slice ra rn rc).ownBlock → OwnInf w' lo hi a n c xs b m d (xss.set k zs) := by
  obtain ⟨rs, h1, h2, h3⟩ := h
  obtain ⟨g, ra, rn, rc, ys, rfl, hc, hrow, HX, HR⟩ := h1.rowAt hk
  refine ⟨g, ra, rn, rc, ys, rfl, hc, hrow, HX, fun w' zs ho hg => ⟨rs, h1.rowSet HR.out w' zs ho hg, ⟨h2.1.grown hg ?_, h2.2⟩, h3⟩⟩
  cases a with
  | none => exact .inl rfl
  | some p =>
    refine .inr fun e => ?_
    cases ra with
    | none => simp [Value.ownBlock] at e
    | some q =>
      simp only [Value.ownBlock, Option.some.injEq] at e
      exact h3 _ (List.mem_of_getElem? HR.out) q p rfl rfl e.symm
/-- The root written anew. -/
theorem OwnInf.setRoot {w w' : World} {lo hi : Nat} {a : Option Addr} {n c : Nat} {xs ys : List Int} {b : Option Addr} {m d : Nat} {xss : List (List Int)} (h : OwnInf w lo hi a n c xs b m d xss)
    (ho : OwnIn w' lo hi a n c ys) (hg : w.grownBy w' (Value.slice a n c).ownBlock) : OwnInf w' lo hi a n c ys b m d xss := by
  obtain ⟨rs, h1, h2, h3⟩ := h
  obtain ⟨e1, e2, e3, e4, e5, e6⟩ := h1
  refine ⟨rs, ⟨e1, e2, e3.kept hg (own_types_ne e3 h2.1.2 (by decide)), e4, fun i r zs hr hz => ?_, e6⟩, ho, h3⟩
  have q := e5 i r zs hr hz
  refine ⟨q.1.grown hg ?_, q.2⟩
  obtain ⟨ra, rn, rc⟩ := r
  cases ra with
  | none => exact .inl rfl
  | some p =>
    refine .inr fun e => ?_
    cases a with
    | none => simp [Value.ownBlock] at e
    | some q =>
      simp only [Value.ownBlock, Option.some.injEq] at e
      exact h3 _ (List.mem_of_getElem? hr) p q rfl rfl e

set_option maxHeartbeats 600000 in
/-- The marks are written into all rows; the root stands. -/
theorem markRows_own (a : Option Addr) (n c : Nat) (xs : List Int) (b : Option Addr) (m d lo hi : Nat) (k0 : Int) (xss : List (List Int)) (w : World) (ha : OwnInf w lo hi a n c xs b m d xss) (hnb : m ≤ 2097152) (ht : totL xss ≤ 2097152) (hk0 : 0 ≤ k0) (hk1 : k0 ≤ 2147483648) :
    Calls Try.prog 21 #[.slice b m d, .int .i64 k0] w fun e w' => e = .returned (.int .i64 (k0 + totL xss)) ∧ OwnInf w' lo hi a n c xs b m d (marksS k0 xss) ∧ Out lo hi w w' := by
  have HN : Hid (xss.length = m) := ha.parts.len
  have HM : Hid ((marksS k0 xss).length = m) := by show _ = _; rw [length_marksS]; exact HN.out
  go_enter Try.func21, Try.ntmps21
  go_wp2
  go_loopw [1, 5] (fun kv i wr => ∃ k : Nat, k ≤ m ∧ i = .int .i64 k ∧ kv = .int .i64 (k0 + (totL (xss.take k) : Int)) ∧ OwnInf wr lo hi a n c xs b m d ((marksS k0 xss).take k ++ xss.drop k) ∧ Out lo hi w wr) (fun _ i _ => m - (intOf i).toNat)
  case atStart => exact ⟨0, Nat.zero_le _, rfl, by simp [totL], by simpa using ha, Out.refl _ _ _⟩
  case round =>
    obtain ⟨k, hk, rfl, rfl, ho, hg⟩ := hrel
    by_cases hlt : k < m
    · obtain ⟨g, ra, rn, rc, ys, rfl, hc, hrow, HX, hset⟩ := ho.row hlt
      have HX' : Hid (xss[k]? = some ys) := by
        show xss[k]? = some ys
        have h1 := HX.out
        rw [List.getElem?_append_right (by rw [List.length_take, HM.out]; omega), List.length_take, HM.out, Nat.min_eq_left hk, Nat.sub_self, List.getElem?_drop] at h1
        simpa using h1
      have Hlen : Hid (ys.length = rn) := hrow.1.1
      have hrl : rn ≤ 2097152 := by rw [← Hlen.out]; have := le_totL (List.mem_of_getElem? HX'.out); omega
      have htk := totL_take_le xss k
      have h0 : 0 ≤ k0 + (totL (xss.take k) : Int) := by omega
      have Hs : Hid (totL (xss.take (k + 1)) = totL (xss.take k) + rn) := by show _ = _; rw [totL_snoc HX'.out, Hlen.out]
      have Hm : Hid ((marksS k0 xss)[k]? = some (marks (k0 + (totL (xss.take k) : Int)) rn)) := by show _ = _; rw [← Hlen.out]; exact marksS_get k0 xss k ys HX'.out
      have hC := markIntS_any ra rn rc lo (k0 + (totL (xss.take k) : Int)) ys wr hrow.1 hrl h0 (by omega)
      go_wp2_with fail
      refine hC.mono ?_
      rintro e w1 ⟨rfl, h2, h3⟩
      have hii := hset w1 _ ⟨h2, hrow.2⟩ h3
      have hou : Out lo hi w w1 := hg.trans (Out.ofGrown h3 hrow.row)
      clear hset hC hrow h2 h3 hc ho hg ha
      go_wp2
      go_roundw
      case rel =>
        refine ⟨k + 1, by omega, by go_num, by rw [Hs.out]; go_num, ?_, hou⟩
        rw [← set_take_drop (by rw [HN.out]; exact hlt) Hm.out (by rw [HM.out]; exact hk)]
        exact hii
      case measure => simp [intOf]; omega
    · have hkn : k = m := by omega
      subst hkn
      have e : (marksS k0 xss).take k ++ xss.drop k = marksS k0 xss := by
        rw [List.take_of_length_le (by rw [HM.out]; exact Nat.le_refl _), List.drop_eq_nil_of_le (by rw [HN.out]; exact Nat.le_refl _), List.append_nil]
      rw [e] at ho
      have e2 : Hid (xss.take k = xss) := List.take_of_length_le (by rw [HN.out]; exact Nat.le_refl _)
      go_wp2
      go_ret
      exact ⟨ret_int (by rw [e2.out]), ho, hg⟩

set_option maxHeartbeats 600000 in
theorem markInf_own (a : Option Addr) (n c : Nat) (xs : List Int) (b : Option Addr) (m d lo hi : Nat) (k0 : Int) (xss : List (List Int)) (w : World) (ha : OwnInf w lo hi a n c xs b m d xss) (hn : n ≤ 2097152) (hm : m ≤ 2097152) (ht : totL xss ≤ 2097152) (hk0 : 0 ≤ k0) (hk1 : k0 ≤ 1048576) (hhi : hi ≤ w.heap.size) :
    Calls Try.prog 14 #[.agg #[.slice a n c, .slice b m d], .int .i64 k0] w fun e w' => e = .returned (.int .i64 (k0 + (n : Int) + (totL xss : Int))) ∧ OwnInf w' lo hi a n c (marks k0 n) b m d (marksS (k0 + (n : Int)) xss) ∧ Out lo hi w w' := by
  have hbx := below_alloc w (.cells #[.slice a n c, .slice b m d] 25)
  have x1 := Bx.new w (.slice a n c) (.slice b m d) 25
  have h0 := ha.below hbx
  have c1 := markIntS_any a n c lo k0 xs _ h0.root.1 hn hk0 (by omega)
  have HB := Lib.hid h0.root
  have X1 := Lib.hid x1
  have H0 := Lib.hid h0
  clear ha x1 h0
  go_enter Try.func14, Try.ntmps14
  go_wp2_with fail
  refine c1.mono ?_
  rintro e w1 ⟨rfl, h2, h3⟩
  have h4 := H0.out.setRoot ⟨h2, HB.out.2⟩ h3
  have ho1 : Out lo hi (w.alloc (.cells #[.slice a n c, .slice b m d] 25)) w1 := Out.ofGrown h3 HB.out.row
  obtain ⟨p1, p2, p3⟩ := X1.out.out ho1 (.inr hhi)
  have hsz1 := ho1.size
  simp only [World.size_alloc] at hsz1
  have c2 := markRows_own a n c _ b m d lo hi (k0 + (n : Int)) xss w1 h4 hm ht (by omega) (by omega)
  have ho2 : Out lo hi w w1 := (Below.out hbx).trans ho1
  clear c1 h2 h3 h4 HB X1 H0 ho1
  go_wp2_with fail
  refine c2.mono ?_
  rintro e w2 ⟨rfl, h5, h6⟩
  clear c2 p1 p2 p3
  go_wp2
  go_ret
  exact ⟨rfl, h5, ho2.trans h6⟩

set_option maxHeartbeats 600000 in
theorem heldInf_own (a : Option Addr) (n c : Nat) (b : Option Addr) (m d lo hi : Nat) (k0 : Int) (xss : List (List Int)) (w : World) (ha : OwnInf w lo hi a n c (marks k0 n) b m d (marksS (k0 + (n : Int)) xss)) (hn : n ≤ 2097152) (hm : m ≤ 2097152) (ht : totL xss ≤ 2097152) (hk0 : 0 ≤ k0) (hk1 : k0 ≤ 1048576) :
    Calls Try.prog 15 #[.agg #[.slice a n c, .slice b m d], .int .i64 k0] w (RetV w (.int .i64 (k0 + (n : Int) + (totL xss : Int)))) := by
  have hbx := below_alloc w (.cells #[.slice a n c, .slice b m d] 25)
  have x1 := Bx.new w (.slice a n c) (.slice b m d) 25
  have h0 := ha.below hbx
  have c1 := heldIntS_own a n c lo hi k0 _ h0.root hn hk0 (by omega)
  have X1 := Lib.hid x1
  have H0 := Lib.hid h0.parts
  have hng : ¬ (k0 + (n : Int) < 0) := by omega
  have hng2 : ¬ (k0 + (n : Int) + (totL xss : Int) < 0) := by omega
  clear ha x1 h0
  go_enter Try.func15, Try.ntmps15
  go_wp2_with fail
  refine c1.mono ?_
  rintro e w1 ⟨rfl, hb1⟩
  obtain ⟨p1, p2, p3⟩ := X1.out.below hb1
  have hbw : Below w.heap.size w w1 := hbx.trans (hb1.mono hbx.size)
  have c2 := heldIntSS_own b m d lo hi (k0 + (n : Int)) xss w1 (H0.out.below hb1) hm ht (by omega) (by omega)
  clear c1 X1 H0
  go_wp2_with fail
  refine c2.mono ?_
  rintro e w2 ⟨rfl, hb2⟩
  clear c2 p1 p2 p3
  go_wp2
  go_ret
  exact ⟨rfl, hbw.trans (hb2.mono hbw.size)⟩
end Go.Proofs.Ytjhlianledgiiaa
