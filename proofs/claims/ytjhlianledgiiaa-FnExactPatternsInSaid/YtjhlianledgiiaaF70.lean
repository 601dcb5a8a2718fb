/- PatternsIn, of the program and of the reference. No condition. -/
import Derived.Test.YtjhlianledgiiaaF66
import Derived.Test.YtjhlianledgiiaaF64
import Derived.Test.YtjhlianledgiiaaF72
import Derived.Test.YtjhlianledgiiaaF08
namespace Go.Proofs.Ytjhlianledgiiaa
open Go.RowKit

def PtOk (xs : List Int) (k : Int) : Prop := Perm8 xs ∧ 0 ≤ k ∧ k ≤ (xs.length : Int)
instance (xs : List Int) (k : Int) : Decidable (PtOk xs k) := inferInstanceAs (Decidable (_ ∧ _))
theorem ptsP_yes {xs : List Int} {k : Nat} (h : Perm8 xs) (hk : k ≤ xs.length) : ptsP xs k = ordL (ptsA xs k) := by
  unfold ptsP
  rw [if_pos ⟨h, by omega, by omega⟩]; rfl
theorem rows_ordL (l : List (List Int)) (h : ∀ r ∈ l, r.length ≤ 8) : ∀ r ∈ ordL l, r.length ≤ 8 := fun r hr => h r (((ordL_spec l).2 r).1 hr)
theorem totL_putL' (l : List (List Int)) (p : List Int) : totL (putL l p) ≤ totL l + p.length := by
  unfold putL; split
  · omega
  · have h := totL_append (l.take (putAt l p l.length)) (l.drop (putAt l p l.length))
    rw [List.take_append_drop] at h
    rw [totL_append]
    simp only [totL] at h ⊢
    omega
theorem totL_ordL' (l : List (List Int)) : totL (ordL l) ≤ totL l := by
  have : ∀ (l a : List (List Int)), totL (l.foldl putL a) ≤ totL a + totL l := by
    intro l
    induction l with
    | nil => intro a; simp [totL]
    | cons p l ih => intro a; have h1 := ih (putL a p); have h2 := totL_putL' a p; simp only [List.foldl_cons, totL] at h1 h2 ⊢; omega
  have := this l []; simpa [ordL, totL] using this
theorem length_ordL' (l : List (List Int)) : (ordL l).length ≤ l.length := by
  have : ∀ (l a : List (List Int)), (l.foldl putL a).length ≤ a.length + l.length := by
    intro l
    induction l with
    | nil => intro a; simp
    | cons p l ih =>
      intro a
      have h1 := ih (putL a p)
      have h2 : (putL a p).length ≤ a.length + 1 := by unfold putL; split <;> simp; omega
      simp only [List.foldl_cons, List.length_cons] at h1 ⊢; omega
  have := this l []; simpa [ordL] using this
theorem bound_ptsP (xs : List Int) (k : Int) : totL (ptsP xs k) ≤ 2097152 ∧ (ptsP xs k).length ≤ 2097152 := by
  unfold ptsP
  split
  · rename_i h
    have h8 : xs.length ≤ 8 := h.1.1
    have h1 := length_ptsA h8 k.toNat
    have h2 : totL (ptsA xs k.toNat) ≤ (ptsA xs k.toNat).length * 8 := totL_bound (rows_ptsA h8 k.toNat (by omega))
    have h3 := totL_ordL' (ptsA xs k.toNat)
    have h4 := length_ordL' (ptsA xs k.toNat)
    omega
  · simp [totL]
theorem OwnIIr.rowLt {w : World} {lo hi n c : Nat} {a : Option Addr} {rs : List (Option Addr × Nat × Nat)} {xss : List (List Int)} (h : OwnIIr w lo hi a n c rs xss) : ∀ r ∈ rs, ∀ p, r.1 = some p → p.block < hi := by
  intro r hr p hp
  obtain ⟨h1, h2, _, _, h5, _⟩ := h
  obtain ⟨i, hi'⟩ := List.getElem?_of_mem hr
  have hin : i < xss.length := by rw [h1, ← h2]; exact (List.getElem?_eq_some_iff.1 hi').1
  exact (h5 i r _ hi' (List.getElem?_eq_getElem hin)).2 p hp

set_option maxHeartbeats 1600000 in
theorem impl_PatternsIn_main (a : Option Addr) (n c : Nat) (xs : List Int) (kk : Nat) (w : World) (h : SlI w a n c xs) (HP : Hid (Perm8 xs)) (hkn : kk ≤ n) :
    Calls Try.prog 19 #[.slice a n c, .int .i64 (kk : Int)] w (RetII w (ordL (ptsA xs kk))) := by
  have HN : Hid (xs.length = n) := h.2.1
  have hn8 : n ≤ 8 := by have h1 := HP.out.1; have h2 := HN.out; omega
  have hI := impl_IsPerm a n c xs w h
  rw [decide_eq_true HP.out] at hI
  have HRow : Hid (∀ l ∈ lvQ n kk, Inc n l ∧ l.length = kk) := rows_lvQ n kk
  have HL : Hid ((lvQ n kk).length ≤ 256) := Nat.le_trans (length_lvQ n kk) (pow8 hn8)
  have g1 : ¬ ((kk : Int) < 0) := by omega
  have g2 : ¬ ((n : Int) < (kk : Int)) := by omega
  go_enter Try.func19, Try.ntmps19
  go_wp2_with fail
  refine hI.mono ?_
  rintro e w1 ⟨rfl, hb1⟩
  have h1 := h.below hb1
  clear hI h
  go_wp2_with fail
  refine (places_any n kk hn8 (by omega) _).mono ?_
  rintro e w2 ⟨a2, n2, c2, rfl, ho2, hb2⟩
  have Hn2 : Hid ((lvQ n kk).length = n2) := ho2.len
  have hn2 : n2 ≤ 256 := by have h1 := Hn2.out; have h2 := HL.out; omega
  obtain ⟨L, hL⟩ : ∃ L, L = (w1.alloc (.cells #[] 22)).heap.size := ⟨_, rfl⟩
  obtain ⟨U, hU⟩ : ∃ U, U = w2.heap.size := ⟨_, rfl⟩
  have hLw : w1.heap.size < L := by rw [hL]; simp
  have hLU : L ≤ U := by rw [hL, hU]; exact hb2.size
  have hUw : U ≤ w2.heap.size := by omega
  obtain ⟨rsL, hrsL⟩ := ho2
  have HO2 : Hid (OwnIIr w2 L U a2 n2 c2 rsL (lvQ n kk)) := by rw [hL, hU]; exact hrsL
  clear hL hU hrsL
  have hb02 := (below_alloc w1 (.cells #[] 22)).trans (hb2.mono (by simp))
  have ho0 : OwnIIr w2 w1.heap.size w2.heap.size (some ⟨w1.heap.size, 0, none⟩) 0 0 [] [] := by
    have h1 := (OwnII.start w1).below hb2
    obtain ⟨rs, h2⟩ := h1.mono (Nat.le_refl _) hb2.size
    have : rs = [] := List.eq_nil_of_length_eq_zero h2.2.1
    rw [this] at h2
    exact h2
  have HB2 : Hid (Below w1.heap.size w1 w2) := hb02
  have HA0 : Hid (∀ p, some (⟨w1.heap.size, 0, none⟩ : Addr) = some p → p.block < L ∨ U ≤ p.block) := by show ∀ p, _; intro p hp; cases hp; exact .inl hLw
  have HH := Lib.hid h1
  clear hb2 h1 hb02
  go_wp2
  go_loopw [5, 7, 8, 10, 30, 35, 36, 37] (fun v _ _ _ i _ _ _ wr => ∃ (k c1 : Nat) (a1 : Option Addr) (rsO : List (Option Addr × Nat × Nat)), k ≤ n2 ∧ i = .int .i64 k ∧ v = .slice a1 k c1 ∧ OwnIIr wr w1.heap.size wr.heap.size a1 k c1 rsO ((ptsA xs kk).take k) ∧ Hid (Below w1.heap.size w1 wr) ∧ Hid (OwnIIr wr L U a2 n2 c2 rsL (lvQ n kk)) ∧ Hid (∀ p, a1 = some p → p.block < L ∨ U ≤ p.block) ∧ U ≤ wr.heap.size) (fun _ _ _ _ i _ _ _ _ => n2 - (intOf i).toNat)
  case atStart => exact ⟨0, 0, _, [], Nat.zero_le _, rfl, rfl, by simpa using ho0, HB2, HO2, HA0, hUw⟩
  case round =>
    obtain ⟨k, c3, a3, rsO, hk, rfl, rfl, ho, HB, HO, HA, hU⟩ := hrel
    by_cases hlt : k < n2
    · obtain ⟨g, ra, rn, rc, l, rfl, hcell, hrow, HX, HR⟩ := HO.out.rowAt hlt
      have hr := HRow.out l (List.mem_of_getElem? HX.out)
      have hrn : rn = kk := by have h1 := hrow.1.1; have h2 := hr.2; omega
      subst hrn
      have HPl : Hid (Pl n l) := hr.1.2.1
      have HSl : Hid (SlI wr ra rn rc l) := hrow.sl (by omega)
      have HSx : Hid (SlI wr a n c xs) := HH.out.below HB.out
      have Hll : Hid (l.length = rn) := hr.2
      have hszr : w1.heap.size ≤ wr.heap.size := HB.out.size
      have HE : Hid ((ptsA xs rn).take (k + 1) = (ptsA xs rn).take k ++ [pat (atP xs l)]) := by
        refine take_snoc ?_
        unfold ptsA
        rw [HN.out, List.getElem?_map, HX.out]; rfl
      obtain ⟨wq, rfl⟩ : ∃ wq : World, wq = wr := ⟨_, rfl⟩
      have HOo := Lib.hid ho
      clear hrow hr ho
      go_wp2
      go_loopw [8, 10, 37] (fun v _ i wr => ∃ (q c1 : Nat) (a1 : Option Addr), q ≤ rn ∧ i = .int .i64 q ∧ v = .slice a1 q c1 ∧ OwnI wr wq.heap.size a1 q c1 ((atP xs l).take q) ∧ Below wq.heap.size wq wr) (fun _ _ i _ => rn - (intOf i).toNat)
      case atStart => exact ⟨0, 0, _, Nat.zero_le _, rfl, rfl, OwnI.lit0 wq, below_alloc _ _⟩
      case round =>
        obtain ⟨q, c1, a1, hq, rfl, rfl, hi, hbi⟩ := hrel
        by_cases hlq : q < rn
        · obtain ⟨bb, bo, y, rfl, hy, HY⟩ := (HSl.out.1.below hbi).at (i := q) (by rw [Hll.out]; exact hlq)
          have hy01 := HPl.out y (List.mem_of_getElem? HY.out)
          obtain ⟨yn, hyn⟩ : ∃ yn : Nat, y = (yn : Int) + 1 := ⟨(y - 1).toNat, by omega⟩
          have hyn1 : yn < n := by omega
          clear hy01
          subst hyn
          obtain ⟨ab, ao, x, rfl, hx, HXx⟩ := (HSx.out.1.below hbi).at (i := yn) (by rw [HN.out]; exact hyn1)
          have e : (atP xs l)[q]? = some x := by
            simp only [atP, List.getElem?_map, HY.out, Option.map_some]
            rw [show ((yn : Int) + 1 - 1).toNat = yn by omega, getD_of HXx.out]
          have E := Lib.hid e; clear e
          go_wp2_with (at_builtin; refine wpList_appI rfl _ _ rfl wq.heap.size _ _ _ _ rfl hi _ rfl (by omega) hbi.size ?_)
          intro a' c' w3 h1 h3
          rw [← take_snoc E.out] at h1
          go_wp2
          go_roundw
          case rel => exact ⟨q + 1, c', a', by omega, by go_num, rfl, h1, hbi.trans h3⟩
          case measure => simp [intOf]; omega
        · obtain rfl : q = rn := by omega
          rw [List.take_of_length_le (by rw [length_atP, Hll.out]; exact Nat.le_refl _)] at hi
          have hP := pattern_any _ _ _ _ _ (hi.sl (by omega))
          have hszi := hbi.size
          clear hi
          go_wp2_with fail
          refine hP.mono ?_
          rintro e w5 ⟨a5, n5, c5, rfl, ho5, hb5⟩
          have ho5' := ho5.ins
          have hsz5 := hb5.size
          have hbb : Below wq.heap.size wq w5 := hbi.trans (hb5.mono hszi)
          have ho1 := HOo.out.below hbb
          have hdis : ∀ r ∈ rsO, ∀ p q, r.1 = some p → a5 = some q → p.block ≠ q.block := fun r hr p q hp hq => by
            have h1 := HOo.out.rowLt r hr p hp
            have h2 := ho5.2.lt
            subst hq
            have h3 := (h2 q.block rfl).1
            omega
          have HO1 : Hid (OwnIIr w5 L U (some ⟨g, 0, none⟩) n2 c2 rsL (lvQ n q)) := HO.out.below hbb
          have HB5 : Hid (Below w1.heap.size w1 w5) := HB.out.trans (hbb.mono hszr)
          clear hP ho5 hb5 hbb hbi HOo
          go_wp2_with (at_builtin; refine wpList_appIIr rfl _ _ rfl w1.heap.size _ _ _ _ _ rsO _ rfl ho1 _ _ _ _ ho5' hdis (by omega) _ rfl rfl (by omega) (by omega) (by omega) ?_)
          intro a' c' w6 g1 g2 _ g5 g6 g7
          have HO4 : Hid (OwnIIr w6 L U (some ⟨g, 0, none⟩) n2 c2 rsL (lvQ n q)) := HO1.out.grownOut g6 fun k hk => by
            obtain ⟨p, hp1, hp2⟩ := ownBlock_some hk
            have := HA.out p hp1
            omega
          have HA4 : Hid (∀ p, a' = some p → p.block < L ∨ U ≤ p.block) := fun p hp => by
            rcases g7 p hp with h1 | h1
            · exact HA.out p h1
            · right; omega
          have HB6 : Hid (Below w1.heap.size w1 w6) := HB5.out.trans g2
          clear g6 g7 g2 ho1 hdis ho5'
          go_wp2
          go_roundw
          case rel => exact ⟨k + 1, c', a', _, by omega, by go_num, rfl, by rw [HE.out]; exact g1, HB6, HO4, HA4, by omega⟩
          case measure => simp [intOf]; omega
    · obtain rfl : k = n2 := by omega
      rw [List.take_of_length_le (by unfold ptsA; rw [List.length_map, HN.out, Hn2.out]; exact Nat.le_refl _)] at ho
      have hii : IIs wr a3 k c3 (ptsA xs kk) := (show OwnII wr w1.heap.size wr.heap.size a3 k c3 (ptsA xs kk) from ⟨_, ho⟩).iis (by omega) (fun r hr => by have := rows_ptsA (by rw [HN.out]; exact hn8) kk (by omega) r hr; omega)
      have hO := ordered_any a3 k c3 _ wr hii (by omega)
      have hb := hb1.trans (HB.out.mono hb1.size)
      clear ho hii
      go_wp2_with fail
      refine hO.mono ?_
      rintro e w3 ⟨a4, n4, c4, rfl, ho3, hb3⟩
      have HF := Lib.hid ho3
      clear hO ho3
      go_wp2
      go_ret
      exact ⟨_, _, _, rfl, HF.out.mono hb.size (Nat.le_refl _), hb.trans (hb3.mono hb.size)⟩

set_option maxHeartbeats 1000000 in
theorem impl_PatternsIn (a : Option Addr) (n c : Nat) (xs : List Int) (k : Int) (w : World) (h : SlI w a n c xs) (_hk : (Lit.int .i64 k).wf = true) :
    Calls Try.prog 19 #[.slice a n c, .int .i64 k] w (RetII w (ptsP xs k)) := by
  have HN : Hid (xs.length = n) := h.2.1
  by_cases hok : PtOk xs k
  · obtain ⟨kk, rfl⟩ : ∃ kk : Nat, k = (kk : Int) := ⟨k.toNat, by have := hok.2.1; omega⟩
    have hk : kk ≤ n := by have h1 := hok.2.2; have h2 := HN.out; omega
    rw [ptsP_yes hok.1 (by rw [HN.out]; exact hk)]
    exact impl_PatternsIn_main a n c xs kk w h hok.1 hk
  · have hI := impl_IsPerm a n c xs w h
    have e : ptsP xs k = [] := if_neg hok
    rw [e]; clear e
    have hc : decide (Perm8 xs) = false ∨ (decide (Perm8 xs) = true ∧ k < 0) ∨ (decide (Perm8 xs) = true ∧ ¬ (k < 0) ∧ (n : Int) < k) := by
      by_cases hp : Perm8 xs
      · by_cases h0 : k < 0
        · exact .inr (.inl ⟨decide_eq_true hp, h0⟩)
        · refine .inr (.inr ⟨decide_eq_true hp, h0, ?_⟩)
          have h2 := HN.out
          by_cases h3 : (n : Int) < k
          · exact h3
          · exact absurd ⟨hp, by omega, by omega⟩ hok
      · exact .inl (decide_eq_false hp)
    clear hok
    rcases hc with hd | ⟨hd, h0⟩ | ⟨hd, h0, h3⟩
    all_goals
      rw [hd] at hI
      clear hd
      go_enter Try.func19, Try.ntmps19
      go_wp2_with fail
      refine hI.mono ?_
      rintro e w1 ⟨rfl, hb1⟩
      go_wp2
      go_ret
      exact ⟨_, _, _, rfl, OwnII.nil _ _ _, hb1⟩

end Go.Proofs.Ytjhlianledgiiaa
