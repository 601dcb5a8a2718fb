/- The walks of the laws' own helpers on slices of slices of integers: compare, mark, look at the marks. Conditions: the lengths are at most 2^21, all together at most 2^31. -/
import Derived.Test.YtjhlianledgiiaaII
namespace Go.Proofs.Ytjhlianledgiiaa
open Go.RowKit

def totL : List (List Int) → Nat
  | [] => 0
  | r :: rs => r.length + totL rs
theorem totL_append (a b : List (List Int)) : totL (a ++ b) = totL a + totL b := by
  induction a with
  | nil => simp [totL]
  | cons r rs ih => simp only [List.cons_append, totL, ih]; omega
theorem totL_take_le (xss : List (List Int)) (k : Nat) : totL (xss.take k) ≤ totL xss := by
  have h := totL_append (xss.take k) (xss.drop k)
  rw [List.take_append_drop] at h; omega
theorem totL_snoc {xss : List (List Int)} {k : Nat} {xs : List Int} (h : xss[k]? = some xs) : totL (xss.take (k + 1)) = totL (xss.take k) + xs.length := by
  rw [take_snoc h, totL_append]; simp [totL]
theorem totL_bound {xss : List (List Int)} {m : Nat} (h : ∀ xs ∈ xss, xs.length ≤ m) : totL xss ≤ xss.length * m := by
  induction xss with
  | nil => simp [totL]
  | cons r rs ih =>
    have h1 := h r (by simp)
    have h2 := ih (fun xs hx => h xs (by simp [hx]))
    simp only [totL, List.length_cons, Nat.add_mul, Nat.one_mul]; omega
theorem le_totL {xss : List (List Int)} {xs : List Int} (h : xs ∈ xss) : xs.length ≤ totL xss := by
  induction xss with
  | nil => cases h
  | cons r rs ih =>
    simp only [totL]
    rcases List.mem_cons.1 h with rfl | h
    · omega
    · have := ih h; omega
/-- The marks of all rows. -/
def marksS (k0 : Int) : List (List Int) → List (List Int)
  | [] => []
  | r :: rs => marks k0 r.length :: marksS (k0 + r.length) rs
theorem length_marks (k0 : Int) (n : Nat) : (marks k0 n).length = n := by simp [marks]
theorem length_marksS (k0 : Int) (xss : List (List Int)) : (marksS k0 xss).length = xss.length := by
  induction xss generalizing k0 with
  | nil => rfl
  | cons r rs ih => simp [marksS, ih]
theorem totL_marksS (k0 : Int) (xss : List (List Int)) : totL (marksS k0 xss) = totL xss := by
  induction xss generalizing k0 with
  | nil => rfl
  | cons r rs ih => simp [marksS, totL, ih, length_marks]
theorem marksS_get (k0 : Int) (xss : List (List Int)) (k : Nat) (xs : List Int) (h : xss[k]? = some xs) : (marksS k0 xss)[k]? = some (marks (k0 + totL (xss.take k)) xs.length) := by
  induction xss generalizing k0 k with
  | nil => simp at h
  | cons r rs ih =>
    cases k with
    | zero => simp at h; subst h; simp [marksS, totL]
    | succ k =>
      simp only [List.getElem?_cons_succ] at h
      simp only [marksS, List.getElem?_cons_succ, List.take_succ_cons, totL]
      rw [ih _ k h]
      congr 2
      omega

set_option maxHeartbeats 400000 in
theorem eqIntSS_same (a b : Option Addr) (n m c d : Nat) (xss : List (List Int)) (w : World) (ha : IIs w a n c xss) (hb : IIs w b m d xss) :
    Calls Try.prog 20 #[.slice a n c, .slice b m d] w (RetV w (.bool true)) := by
  obtain rfl : n = m := by rw [← ha.2.1, hb.2.1]
  have hnb := ha.2.2.1
  have Q0 : Calls Try.prog 20 #[.slice a n c, .slice b n d] w (fun e w' => e = .returned (.bool true) ∧ Quiet w w') := by
    go_enter Try.func20, Try.ntmps20
    go_wp2
    go_loopw [5] (fun i wr => ∃ k : Nat, k ≤ n ∧ i = .int .i64 k ∧ Quiet w wr) (fun i _ => n - (intOf i).toNat)
    case atStart => exact ⟨0, Nat.zero_le _, rfl, Quiet.refl _⟩
    case round =>
      obtain ⟨k, hk, rfl, hq⟩ := hrel
      by_cases hlt : k < n
      · obtain ⟨ab, ao, ra, rn, rc, xs, rfl, hx, hr, HX⟩ := (ha.quiet hq).at hlt
        obtain ⟨bb, bo, sa, sn, sc, ys, rfl, hy, hs, HY⟩ := (hb.quiet hq).at hlt
        obtain rfl : xs = ys := by have h1 := HX.out; have h2 := HY.out; rw [h1] at h2; exact Option.some.inj h2
        have c1 : ∀ q, Calls Try.prog 12 #[.slice ra rn rc, .slice sa sn sc] (wr.drewN q) (fun e w' => e = .returned (.bool true) ∧ ∃ m, w' = wr.drewN m) := fun q => (eqIntS_any ra sa rn sn rc sc xs xs (wr.drewN q) (hr.1.drewN q) (hs.1.drewN q) hr.2.1 hs.2.1 hr.2.2.1 hs.2.2.1).mono fun _ _ ⟨h1, h2⟩ => ⟨by rw [h1]; simp, ((Quiet.refl wr).drewN q).trans h2⟩
        clear hr hs
        go_wp2
        go_quiet ((go_at_call 12; exact c1 _))
        go_wp2
        go_roundw
        case rel => exact ⟨k + 1, by omega, by go_num, hq.drewN _⟩
        case measure => simp [intOf]; omega
      · go_wp2
        go_ret
        exact ⟨rfl, hq⟩
  exact Q0.mono fun e w' h => retV_quiet h

/-- One row of what the call owns: it reads so, and it may be written anew. -/
theorem OwnII.row {w : World} {lo hi n c : Nat} {a : Option Addr} {xss : List (List Int)} (h : OwnII w lo hi a n c xss) {k : Nat} (hk : k < n) :
    ∃ g ra rn rc xs, a = some ⟨g, 0, none⟩ ∧ w.cell? ⟨g, k, none⟩ = some (.slice ra rn rc) ∧ OwnIn w lo hi ra rn rc xs ∧ Hid (xss[k]? = some xs) ∧
      ∀ w' ys, OwnIn w' lo hi ra rn rc ys → w.grownBy w' (Value.slice ra rn rc).ownBlock → OwnII w' lo hi a n c (xss.set k ys) := by
  obtain ⟨rs, h1, h2, h3, h4, h5, h6⟩ := h
  obtain ⟨g, cur, rfl, _, _⟩ := own_head h3 (by omega)
  have hr : rs[k]? = some _ := List.getElem?_eq_getElem (by rw [h2]; exact hk)
  have hx : xss[k]? = some _ := List.getElem?_eq_getElem (by rw [h1]; exact hk)
  have hrow := h5 k _ _ hr hx
  refine ⟨g, _, _, _, _, rfl, ?_, hrow, hx, ?_⟩
  · rw [h3.cellAt k (by omega), List.getElem?_map, hr]; rfl
  · intro w' ys ho hg
    have hne : (Value.slice (some ⟨g, 0, none⟩) n c).ownBlock = none ∨ (Value.slice (some ⟨g, 0, none⟩) n c).ownBlock ≠ (Value.slice (rs[k]'(by rw [h2]; exact hk)).1 (rs[k]'(by rw [h2]; exact hk)).2.1 (rs[k]'(by rw [h2]; exact hk)).2.2).ownBlock := own_types_ne h3 hrow.1.2 (by decide)
    refine ⟨rs, by simp [h1], h2, ?_, h4, ?_, h6⟩
    · refine ⟨h3.1, ?_⟩
      rcases h3.2 with hh | ⟨g', cap, cur', e1, e2, e3, e4⟩
      · exact .inl hh
      · refine .inr ⟨g', cap, cur', e1, e2, ?_, e4⟩
        simp only [Value.slice.injEq] at e1
        obtain rfl : g = g' := by simpa using e1.1
        refine (hg.block g (Array.getElem?_eq_some_iff.1 e3).1 ?_).trans e3
        rcases hne with hne | hne
        · simp [Value.ownBlock] at hne
        · simpa [Value.ownBlock] using hne
    · intro i r zs hri hzi
      by_cases hik : i = k
      · subst hik
        rw [List.getElem?_set_self (by rw [h1]; exact hk)] at hzi
        cases hzi
        rw [hr] at hri; cases hri
        exact ho
      · rw [List.getElem?_set_ne (Ne.symm hik)] at hzi
        have hi := h5 i r zs hri hzi
        refine ⟨hi.1.grown hg ?_, hi.2⟩
        cases hb : (Value.slice r.1 r.2.1 r.2.2).ownBlock with
        | none => exact .inl rfl
        | some p =>
          refine .inr ?_
          intro e
          obtain ⟨ra, rn, rc⟩ := r
          cases ra with
          | none => simp [Value.ownBlock] at hb
          | some pa =>
            have e' : (Value.slice (some pa) rn rc).ownBlock = some pa.block := by simp [Value.ownBlock]
            generalize hq : rs[k]'(by rw [h2]; exact hk) = q at *
            obtain ⟨qa, qn, qc⟩ := q
            cases qa with
            | none => simp [Value.ownBlock] at e hb
            | some qb =>
              have e2 : (Value.slice (some qb) qn qc).ownBlock = some qb.block := by simp [Value.ownBlock]
              simp only [e', e2, Option.some.injEq] at e hb
              rcases Nat.lt_or_gt_of_ne hik with hlt | hlt
              · exact absurd (by omega) (h6 i k _ _ _ _ hlt hri hr rfl rfl)
              · exact absurd (by omega) (h6 k i _ _ _ _ hlt hr hri rfl rfl)

theorem set_take_drop {α : Type} {xss yss : List α} {k : Nat} {y : α} (hx : k < xss.length) (hy : yss[k]? = some y) (hl : k ≤ yss.length) : (yss.take k ++ xss.drop k).set k y = yss.take (k + 1) ++ xss.drop (k + 1) := by
  have h1 : (yss.take k).length = k := by rw [List.length_take, Nat.min_eq_left hl]
  rw [List.set_append_right _ _ (by omega), h1, Nat.sub_self, List.drop_eq_getElem_cons hx, List.set_cons_zero, take_snoc hy]
  simp

set_option maxHeartbeats 600000 in
/-- The marks are written into all rows. -/
theorem markIntSS_own (a : Option Addr) (n c lo hi : Nat) (k0 : Int) (xss : List (List Int)) (w : World) (ha : OwnII w lo hi a n c xss) (hnb : n ≤ 2097152) (ht : totL xss ≤ 2097152) (hk0 : 0 ≤ k0) (hk1 : k0 ≤ 2147483648) :
    Calls Try.prog 21 #[.slice a n c, .int .i64 k0] w fun e w' => e = .returned (.int .i64 (k0 + totL xss)) ∧ OwnII w' lo hi a n c (marksS k0 xss) ∧ Out lo hi w w' := by
  have HN : Hid (xss.length = n) := ha.len
  have HM : Hid ((marksS k0 xss).length = n) := by show _ = _; rw [length_marksS]; exact ha.len
  go_enter Try.func21, Try.ntmps21
  go_wp2
  go_loopw [1, 5] (fun kv i wr => ∃ k : Nat, k ≤ n ∧ i = .int .i64 k ∧ kv = .int .i64 (k0 + (totL (xss.take k) : Int)) ∧ OwnII wr lo hi a n c ((marksS k0 xss).take k ++ xss.drop k) ∧ Out lo hi w wr) (fun _ i _ => n - (intOf i).toNat)
  case atStart => exact ⟨0, Nat.zero_le _, rfl, by simp [totL], by simpa using ha, Out.refl _ _ _⟩
  case round =>
    obtain ⟨k, hk, rfl, rfl, ho, hg⟩ := hrel
    by_cases hlt : k < n
    · obtain ⟨g, ra, rn, rc, xs, rfl, hc, hrow, HX, hset⟩ := ho.row hlt
      have HX' : Hid (xss[k]? = some xs) := by
        show xss[k]? = some xs
        have h1 := HX.out
        rw [List.getElem?_append_right (by rw [List.length_take, HM.out]; omega), List.length_take, HM.out, Nat.min_eq_left hk, Nat.sub_self, List.getElem?_drop] at h1
        simpa using h1
      have Hlen : Hid (xs.length = rn) := hrow.1.1
      have hrl : rn ≤ 2097152 := by rw [← Hlen.out]; have := le_totL (List.mem_of_getElem? HX'.out); omega
      have htk := totL_take_le xss k
      have h0 : 0 ≤ k0 + (totL (xss.take k) : Int) := by omega
      have Hs : Hid (totL (xss.take (k + 1)) = totL (xss.take k) + rn) := by show _ = _; rw [totL_snoc HX'.out, Hlen.out]
      have Hm : Hid ((marksS k0 xss)[k]? = some (marks (k0 + (totL (xss.take k) : Int)) rn)) := by show _ = _; rw [← Hlen.out]; exact marksS_get k0 xss k xs HX'.out
      have hC := markIntS_any ra rn rc lo (k0 + (totL (xss.take k) : Int)) xs wr hrow.1 hrl h0 (by omega)
      go_wp2_with fail
      refine hC.mono ?_
      rintro e w1 ⟨rfl, h2, h3⟩
      have hii := hset w1 _ ⟨h2, hrow.2⟩ h3
      have hou : Out lo hi w w1 := hg.trans (Out.ofGrown h3 hrow.row)
      clear hset hC hrow h2 h3 hc ho hg ha
      go_wp2
      go_roundw
      case rel =>
        refine ⟨k + 1, by omega, by go_num, by rw [Hs.out]; go_num, ?_, hou⟩
        rw [← set_take_drop (by rw [HN.out]; exact hlt) Hm.out (by rw [HM.out]; exact hk)]
        exact hii
      case measure => simp [intOf]; omega
    · have hkn : k = n := by omega
      subst hkn
      have e : (marksS k0 xss).take k ++ xss.drop k = marksS k0 xss := by
        rw [List.take_of_length_le (by rw [HM.out]; exact Nat.le_refl _), List.drop_eq_nil_of_le (by rw [HN.out]; exact Nat.le_refl _), List.append_nil]
      rw [e] at ho
      have e2 : Hid (xss.take k = xss) := List.take_of_length_le (by rw [HN.out]; exact Nat.le_refl _)
      go_wp2
      go_ret
      exact ⟨ret_int (by rw [e2.out]), ho, hg⟩

set_option maxHeartbeats 600000 in
/-- The marks are found again. -/
theorem heldIntSS_own (a : Option Addr) (n c lo hi : Nat) (k0 : Int) (xss : List (List Int)) (w : World) (ha : OwnII w lo hi a n c (marksS k0 xss)) (hnb : n ≤ 2097152) (ht : totL xss ≤ 2097152) (hk0 : 0 ≤ k0) (hk1 : k0 ≤ 2147483648) :
    Calls Try.prog 22 #[.slice a n c, .int .i64 k0] w (RetV w (.int .i64 (k0 + totL xss))) := by
  have HN : Hid (xss.length = n) := by show _ = _; have := ha.len; rwa [length_marksS] at this
  go_enter Try.func22, Try.ntmps22
  go_wp2
  go_loopw [1, 5] (fun kv i wr => ∃ k : Nat, k ≤ n ∧ i = .int .i64 k ∧ kv = .int .i64 (k0 + (totL (xss.take k) : Int)) ∧ Quiet w wr) (fun _ i _ => n - (intOf i).toNat)
  case atStart => exact ⟨0, Nat.zero_le _, rfl, by simp [totL], Quiet.refl _⟩
  case round =>
    obtain ⟨k, hk, rfl, rfl, hq⟩ := hrel
    by_cases hlt : k < n
    · obtain ⟨g, ra, rn, rc, ys, rfl, hc, hrow, HX, _⟩ := (ha.quiet hq).row hlt
      obtain ⟨xs, HX'⟩ : ∃ xs, Hid (xss[k]? = some xs) := ⟨_, List.getElem?_eq_getElem (by rw [HN.out]; exact hlt)⟩
      have Hy : Hid (ys = marks (k0 + (totL (xss.take k) : Int)) rn) := by
        have h1 := HX.out
        rw [marksS_get k0 xss k xs HX'.out] at h1
        have h2 := Option.some.inj h1
        have h3 := hrow.1.1
        rw [← h2, length_marks] at h3
        rw [← h2, h3]; rfl
      have Hlen : Hid (xs.length = rn) := by
        have h1 := HX.out
        rw [marksS_get k0 xss k xs HX'.out] at h1
        have h2 := Option.some.inj h1
        have h3 := hrow.1.1
        rw [← h2, length_marks] at h3
        exact h3
      have hrl : rn ≤ 2097152 := by rw [← Hlen.out]; have := le_totL (List.mem_of_getElem? HX'.out); omega
      have htk := totL_take_le xss k
      have h0 : 0 ≤ k0 + (totL (xss.take k) : Int) := by omega
      have Hs : Hid (totL (xss.take (k + 1)) = totL (xss.take k) + rn) := by show _ = _; rw [totL_snoc HX'.out, Hlen.out]
      have hC := heldIntS_any ra rn rc (k0 + (totL (xss.take k) : Int)) wr (by have h := hrow.1.ints; rw [Hy.out] at h; exact h) hrl h0 (by omega)
      clear hrow
      have hnn : ¬ (k0 + (totL (xss.take k) : Int) + (rn : Int) < 0) := by omega
      go_wp2_with fail
      refine hC.mono ?_
      rintro e w1 ⟨rfl, hq1⟩
      have hq2 := hq.trans hq1
      clear hC hq hq1 hc
      go_wp2
      go_roundw
      case rel => exact ⟨k + 1, by omega, by go_num, by rw [Hs.out]; go_num, hq2⟩
      case measure => simp [intOf]; omega
    · have hkn : k = n := by omega
      subst hkn
      have e2 : Hid (xss.take k = xss) := List.take_of_length_le (by rw [HN.out]; exact Nat.le_refl _)
      go_wp2
      go_ret
      exact ⟨ret_int (by rw [e2.out]), hq.below _⟩
theorem OwnII.iisT {w : World} {lo hi n c : Nat} {a : Option Addr} {xss : List (List Int)} (h : OwnII w lo hi a n c xss) (hb : totL xss ≤ 2097152 ∧ xss.length ≤ 2097152) : IIs w a n c xss :=
  h.iis (by rw [← h.len]; exact hb.2) fun xs hx => Nat.le_trans (le_totL hx) hb.1
end Go.Proofs.Ytjhlianledgiiaa
