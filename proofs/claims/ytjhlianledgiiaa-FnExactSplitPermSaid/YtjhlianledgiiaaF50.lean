/- The split of the program: the walk. Condition: a permutation that is not empty. -/
import Derived.Test.YtjhlianledgiiaaF49
import Derived.Test.YtjhlianledgiiaaF24
import Derived.Test.YtjhlianledgiiaaF51
import Derived.Deep.RegionLaw
namespace Go.Proofs.Ytjhlianledgiiaa
open Go.RowKit

theorem litAt (w : World) (s : Nat) (hs : w.heap.size = s) (vs : List Int) (h8 : vs.length ≤ 8) : OwnIn (w.alloc (.cells (vs.map (.int .i64)).toArray 3)) s (s + 1) (some ⟨s, 0, none⟩) vs.length vs.length vs := by
  subst hs
  exact ⟨OwnI.lit w vs h8, fun p hp => by obtain rfl := Option.some.inj hp; exact Nat.lt_succ_self _⟩
theorem rows1 (w : World) (s lo hi : Nat) (hs : w.heap.size = s) (ra : Option Addr) (rn rc : Nat) (xs : List Int) (h : OwnIn w lo hi ra rn rc xs) (hlo : lo ≤ s) (hhi : hi ≤ s) :
    OwnIIr (w.alloc (.cells #[.slice ra rn rc] 22)) lo (s + 1) (some ⟨s, 0, none⟩) 1 1 [(ra, rn, rc)] [xs] := by
  subst hs
  refine OwnIIr.lit [(ra, rn, rc)] [xs] rfl (by simp) (fun i r ys hr hy => ?_) (fun i j r t p q hij hr ht => ?_) hlo hhi
  · match i, hr, hy with
    | 0, hr, hy => simp only [List.getElem?_cons_zero, Option.some.injEq] at hr hy; subst hr hy; exact h
    | i + 1, hr, _ => simp at hr
  · have h1 := (List.getElem?_eq_some_iff.1 ht).1
    simp at h1; omega
theorem rows2 (w : World) (s lo hi : Nat) (hs : w.heap.size = s) (ra : Option Addr) (rn rc : Nat) (xs : List Int) (sa : Option Addr) (sn sc : Nat) (ys : List Int) (h : OwnIn w lo hi ra rn rc xs) (h' : OwnIn w lo hi sa sn sc ys)
    (hne : ∀ p q, ra = some p → sa = some q → p.block ≠ q.block) (hlo : lo ≤ s) (hhi : hi ≤ s) :
    OwnIIr (w.alloc (.cells #[.slice ra rn rc, .slice sa sn sc] 22)) lo (s + 1) (some ⟨s, 0, none⟩) 2 2 [(ra, rn, rc), (sa, sn, sc)] [xs, ys] := by
  subst hs
  refine OwnIIr.lit [(ra, rn, rc), (sa, sn, sc)] [xs, ys] rfl (by simp) (fun i r zs hr hz => ?_) (fun i j r t p q hij hr ht hp hq => ?_) hlo hhi
  · match i, hr, hz with
    | 0, hr, hz => simp only [List.getElem?_cons_zero, Option.some.injEq] at hr hz; subst hr hz; exact h
    | 1, hr, hz => simp only [List.getElem?_cons_succ, List.getElem?_cons_zero, Option.some.injEq] at hr hz; subst hr hz; exact h'
    | i + 2, hr, _ => simp at hr
  · have h1 := (List.getElem?_eq_some_iff.1 ht).1
    simp at h1
    obtain rfl : i = 0 := by omega
    obtain rfl : j = 1 := by omega
    simp only [List.getElem?_cons_succ, List.getElem?_cons_zero, Option.some.injEq] at hr ht
    subst hr ht
    exact hne p q hp hq

theorem sumEnd1 (w3 : World) (lo t : Nat) (ra : Option Addr) (rn rc : Nat) (r0 : List Int) (a2 : Option Addr) (n2 c2 : Nat) (J rv : List Int) (hr : OwnIn w3 lo t ra rn rc r0) (hroot : OwnIn w3 t (t + 1) (some ⟨t, 0, none⟩) 2 2 rv) (hj : OwnIn w3 (t + 1) w3.heap.size a2 n2 c2 J) (hlo : lo ≤ t) (ht : t < w3.heap.size) :
    OwnInf (w3.alloc (.cells #[.slice ra rn rc, .slice a2 n2 c2] 22)) lo (w3.alloc (.cells #[.slice ra rn rc, .slice a2 n2 c2] 22)).heap.size (some ⟨t, 0, none⟩) 2 2 rv (some ⟨w3.heap.size, 0, none⟩) 2 2 [r0, J] := by
  have hrb := hr.2
  have hjb : ∀ q, a2 = some q → t + 1 ≤ q.block := fun q hq => (hj.1.lo q hq).1
  refine ⟨_, (rows2 w3 w3.heap.size lo w3.heap.size rfl ra rn rc r0 a2 n2 c2 J (hr.mono (Nat.le_refl _) (by omega)) (hj.mono (by omega) (Nat.le_refl _)) (fun p q h1 h2 => by have := hrb p h1; have := hjb q h2; omega) (by omega) (Nat.le_refl _)).mono (Nat.le_refl _) (by simp), (hroot.below (below_alloc _ _)).mono hlo (by simp; omega), ?_⟩
  intro r hr' p q hp hq
  cases hq
  simp only [List.mem_cons, List.not_mem_nil, or_false] at hr'
  rcases hr' with rfl | rfl
  · have := hrb p hp; simp; omega
  · have := hjb p hp; simp; omega
theorem sumEnd2 (w3 : World) (lo t : Nat) (ra : Option Addr) (rn rc : Nat) (r0 : List Int) (a2 : Option Addr) (n2 c2 : Nat) (J : List Int) (u v : Int) (hr : OwnIn w3 lo t ra rn rc r0) (hj : OwnIn w3 t w3.heap.size a2 n2 c2 J) (hlo : lo ≤ t) (ht : t ≤ w3.heap.size) :
    OwnInf ((w3.alloc (.cells #[.int .i64 u, .int .i64 v] 3)).alloc (.cells #[.slice ra rn rc, .slice a2 n2 c2] 22)) lo ((w3.alloc (.cells #[.int .i64 u, .int .i64 v] 3)).alloc (.cells #[.slice ra rn rc, .slice a2 n2 c2] 22)).heap.size (some ⟨w3.heap.size, 0, none⟩) 2 2 [u, v] (some ⟨w3.heap.size + 1, 0, none⟩) 2 2 [r0, J] := by
  have hrb := hr.2
  have hjb : ∀ q, a2 = some q → t ≤ q.block := fun q hq => (hj.1.lo q hq).1
  have hjb2 := hj.2
  refine ⟨_, (rows2 (w3.alloc (.cells #[.int .i64 u, .int .i64 v] 3)) (w3.heap.size + 1) lo w3.heap.size (by simp) ra rn rc r0 a2 n2 c2 J ((hr.below (below_alloc _ _)).mono (Nat.le_refl _) (by omega)) ((hj.below (below_alloc _ _)).mono (by omega) (Nat.le_refl _)) (fun p q h1 h2 => by have := hrb p h1; have := hjb q h2; omega) (by omega) (by omega)).mono (Nat.le_refl _) (by simp), ((litAt w3 w3.heap.size rfl [u, v] (by simp)).below (below_alloc _ _)).mono (by omega) (by simp), ?_⟩
  intro r hr' p q hp hq
  cases hq
  simp only [List.mem_cons, List.not_mem_nil, or_false] at hr'
  rcases hr' with rfl | rfl
  · have := hrb p hp; simp; omega
  · have := hjb2 p hp; simp; omega
theorem sumEnd3 (w3 : World) (lo t : Nat) (ra : Option Addr) (rn rc : Nat) (r0 : List Int) (a2 : Option Addr) (n2 c2 : Nat) (J : List Int) (u v : Int) (hr : OwnIn w3 lo t ra rn rc r0) (hj : OwnIn w3 t w3.heap.size a2 n2 c2 J) (hlo : lo ≤ t) (ht : t ≤ w3.heap.size) :
    OwnInf ((w3.alloc (.cells #[.slice ra rn rc, .slice a2 n2 c2] 22)).alloc (.cells #[.int .i64 u, .int .i64 v] 3)) lo ((w3.alloc (.cells #[.slice ra rn rc, .slice a2 n2 c2] 22)).alloc (.cells #[.int .i64 u, .int .i64 v] 3)).heap.size (some ⟨w3.heap.size + 1, 0, none⟩) 2 2 [u, v] (some ⟨w3.heap.size, 0, none⟩) 2 2 [r0, J] := by
  have hrb := hr.2
  have hjb : ∀ q, a2 = some q → t ≤ q.block := fun q hq => (hj.1.lo q hq).1
  have hjb2 := hj.2
  refine ⟨_, ((rows2 w3 w3.heap.size lo w3.heap.size rfl ra rn rc r0 a2 n2 c2 J (hr.mono (Nat.le_refl _) (by omega)) (hj.mono (by omega) (Nat.le_refl _)) (fun p q h1 h2 => by have := hrb p h1; have := hjb q h2; omega) (by omega) (by omega)).below (below_alloc _ _)).mono (Nat.le_refl _) (by simp), (litAt (w3.alloc (.cells #[.slice ra rn rc, .slice a2 n2 c2] 22)) (w3.heap.size + 1) (by simp) [u, v] (by simp)).mono (by omega) (by simp), ?_⟩
  intro r hr' p q hp hq
  cases hq
  simp only [List.mem_cons, List.not_mem_nil, or_false] at hr'
  rcases hr' with rfl | rfl
  · have := hrb p hp; simp; omega
  · have := hjb2 p hp; simp; omega

set_option maxHeartbeats 2000000 in
set_option maxRecDepth 100000 in
theorem split_any (a : Option Addr) (n c : Nat) (xs : List Int) (w : World) (h : SlI w a n c xs) (hp : Hid (Perm8 xs)) (hn : 1 ≤ n) :
    Calls Try.prog 70 #[.slice a n c] w (RetS w (splR xs) (splP xs)) := by
  have HN : Hid (xs.length = n) := h.2.1
  have h8 : n ≤ 8 := by have h1 := hp.out.1; have h2 := HN.out; omega
  by_cases hn1 : n = 1
  · have e1 : splR xs = [1] := by unfold splR; rw [if_pos (by rw [HN.out, hn1])]
    have e2 : splP xs = [[1]] := by unfold splP; rw [if_pos (by rw [HN.out, hn1])]
    rw [e1, e2]
    subst hn1
    clear e1 e2 h
    go_enter Try.func70, Try.ntmps70
    go_wp2
    (try simp only [Exit.inBlock, Exit.then])
    refine bodyPost_ret (v := .agg #[.slice (some ⟨w.heap.size + 1, 0, none⟩) 1 1, .slice (some ⟨w.heap.size + 1 + 1 + 1, 0, none⟩) 1 1]) ?_ rfl ?_
    · rw [results_cell1 rfl]
      go_simp
    · have h0 := litAt (w.alloc (.cells #[.slice (some ⟨w.heap.size + 1, 0, none⟩) 1 1, .slice (some ⟨w.heap.size + 1 + 1 + 1, 0, none⟩) 1 1] 25)) (w.heap.size + 1) (by simp) [1] (by simp)
      have h1 := litAt ((w.alloc (.cells #[.slice (some ⟨w.heap.size + 1, 0, none⟩) 1 1, .slice (some ⟨w.heap.size + 1 + 1 + 1, 0, none⟩) 1 1] 25)).alloc (.cells #[.int .i64 1] 3)) (w.heap.size + 1 + 1) (by simp) [1] (by simp)
      have h2 := rows1 _ (w.heap.size + 1 + 1 + 1) (w.heap.size + 1 + 1) (w.heap.size + 1 + 1 + 1) (by simp) _ _ _ _ h1 (by omega) (Nat.le_refl _)
      refine ⟨_, _, _, _, _, _, rfl, ⟨_, h2.mono (by omega) (by simp), (((h0.below (below_alloc _ _)).below (below_alloc _ _)).mono (by omega) (by simp <;> omega)), ?_⟩, (((below_alloc w _).alloc (by simp) _).alloc (by simp; omega) _).alloc (by simp; omega) _⟩
      intro r hr p q hp hq
      simp only [List.mem_singleton] at hr
      subst hr
      cases hp; cases hq
      simp
  · have h2 : 2 ≤ n := by omega
    have hb0 := below_alloc w (.cells #[.slice none 0 0, .slice none 0 0] 25)
    have hS := sumParts_any a n c xs _ (h.below hb0) hp
    go_enter Try.func70, Try.ntmps70
    go_wp2_with fail
    refine hS.mono ?_
    rintro e w1 ⟨a1, n1, c1, rfl, ho1, hb1⟩
    have hsz1 : w.heap.size + 1 ≤ w1.heap.size := by have := hb1.size; simpa using this
    have hbw1 : Below w.heap.size w w1 := hb0.trans (hb1.mono (by simp))
    have t1 : w1.cell? ⟨w.heap.size, 0, none⟩ = some (.slice none 0 0) := cellThru hb1 (by simp) (by simp)
    have t2 : w1.cell? ⟨w.heap.size, 1, none⟩ = some (.slice none 0 0) := cellThru hb1 (by simp) (by simp)
    have f1 : w1.frozen? ⟨w.heap.size, 0, none⟩ = false := frozenThru hb1 (by simp) (by simp)
    have f2 : w1.frozen? ⟨w.heap.size, 1, none⟩ = false := frozenThru hb1 (by simp) (by simp)
    have hlt1 : w.heap.size < w1.heap.size := by omega
    have ho1' : OwnII w1 (w.heap.size + 1) w1.heap.size a1 n1 c1 (sumPs xs) := ho1.mono (by simp) (Nat.le_refl _)
    have HL1 : Hid ((sumPs xs).length = n1) := ho1.len
    have hn1b : n1 ≤ 8 := by have h1 := HL1.out; have h3 := length_sumPs hp.out; omega
    clear hS ho1
    by_cases hs : 1 < n1
    · have e1 : splR xs = [1, 2] := by unfold splR; rw [if_neg (by rw [HN.out]; omega), if_pos (by rw [HL1.out]; exact hs)]
      have e2 : splP xs = sumSplit false (sumPs xs) := by unfold splP; rw [if_neg (by rw [HN.out]; omega), if_pos (by rw [HL1.out]; exact hs)]
      have HE1 := Lib.hid e1
      have HJO := (sumSplit_spec (sk := false) (by rw [HL1.out]; exact hs) (rows_sumPs hp.out) (pos_sumPs xs) (totL_sumPs xs) hp.out.1).1
      have hii := ho1'.iisT ⟨by have h1 := totL_sumPs xs; have h3 := hp.out.1; omega, by have h1 := HL1.out; omega⟩
      have hcap := ho1'.capOf
      obtain ⟨g, ra, rn, rc, r0, rfl, hcell, hrow, HX, _⟩ := ho1'.row (k := 0) (by omega)
      have hg : g < w1.heap.size := World.block_lt_of_cell? w1 _ hcell
      have hd := hii.drop (k := 1) (by omega)
      have hJ : ∀ W, Below w1.heap.size w1 W → Calls Try.prog 117 #[.slice (some ⟨g, 1, none⟩) (n1 - 1) (c1 - 1), .bool false] W fun e w' => ∃ a2 n2 c2, e = .returned (.slice a2 n2 c2) ∧ OwnI w' W.heap.size a2 n2 c2 (jn false ((sumPs xs).drop 1) ((sumPs xs).drop 1).length) ∧ Below W.heap.size W w' ∧ Below w1.heap.size w1 w' ∧ w1.heap.size ≤ W.heap.size :=
        fun W hb => (joinParts_any _ _ _ _ false W (by have := hd.below hb; simpa using this) HJO).mono fun e w' ⟨a2, n2, c2, he, ho, hb'⟩ => ⟨a2, n2, c2, he, ho, hb', hb.trans (hb'.mono hb.size), hb.size⟩
      have HR0 : Hid (splP xs = [r0, jn false ((sumPs xs).drop 1) ((sumPs xs).drop 1).length]) := by
        show _ = _; rw [e2]; unfold sumSplit; rw [getD_of HX.out]
      have HJ := Lib.hid hJ
      have hc1 : ¬ (c1 = 1) := by omega
      have hc2 : (1 : Int) ≤ (n1 : Int) := by omega
      have hc4 : 0 < n1 := by omega
      have hc3 : (n1 : Int) ≤ (c1 : Int) := by omega
      clear hJ hd hii ho1' e1 e2 HJO
      go_wp2_with fail
      go_region_law ((first
        | (go_simp; go_at_call 117; refine (HJ.out _ (by first | exact (Below.refl _ _).drew | exact (below_alloc _ _).drew)).mono ?_; rintro e w2 ⟨a2, n2, c2, rfl, ho2, hb2, hb3, hsz2⟩; have u1 := cellThru hb3 hlt1 t1; have u2 := cellThru hb3 hlt1 t2; have k1 := frozenThru hb3 hlt1 f1; have k2 := frozenThru hb3 hlt1 f2; have u3 := cellThru hb3 hg hcell; have hlt2 := Nat.lt_of_lt_of_le hlt1 hb3.size; have hg2 := Nat.lt_of_lt_of_le hg hb3.size; have hri := hrow.below hb3; try (have hroot2 : OwnIn w2 w1.heap.size (w1.heap.size + 1) (some ⟨w1.heap.size, 0, none⟩) 2 2 [1, 2] := OwnIn.below (w := (w1.alloc (.cells #[.int .i64 1, .int .i64 2] 3)).drew) (litAt w1 w1.heap.size rfl [1, 2] (by simp)) hb2))))
      all_goals
        have hbw2 : Below w.heap.size w w2 := hbw1.trans (hb3.mono hbw1.size)
        have hin2 := ho2.ins
        have hsz3 := hb3.size
        go_wp2
        (try simp only [Exit.inBlock, Exit.then])
        clear HJ
        first
        | (refine bodyPost_ret (v := .agg #[.slice (some ⟨w1.heap.size, 0, none⟩) 2 2, .slice (some ⟨w2.heap.size, 0, none⟩) 2 2]) ?_ rfl ?_
           · rw [results_cell1 rfl]
             go_simp
           · have hou : Out w.heap.size (w.heap.size + 1) w2 ((w2.setCell ⟨w.heap.size, 0, none⟩ (.slice (some ⟨w1.heap.size, 0, none⟩) 2 2)).setCell ⟨w.heap.size, 1, none⟩ (.slice (some ⟨w2.heap.size, 0, none⟩) 2 2)) := (out_setCell (by simp) (by simp) _).trans (out_setCell (by simp) (by simp) _)
             have hsb : w1.heap.size + 1 ≤ w2.heap.size := by have := hb2.size; simpa using this
             have hE := sumEnd1 _ (w.heap.size + 1) w1.heap.size ra rn rc r0 a2 n2 c2 _ [1, 2] (hri.out hou (.inr (Nat.le_refl _))) (hroot2.out hou (.inr (by omega))) ((OwnIn.out (lo := w1.heap.size + 1) (hi := w2.heap.size) (hin2.mono (by simp) (Nat.le_refl _)) hou (.inr (by omega))).mono (Nat.le_refl _) (by simp)) (by omega) (by simp; omega)
             simp only [World.size_setCell] at hE
             rw [HE1.out, HR0.out]
             exact ⟨_, _, _, _, _, _, rfl, hE.mono (by omega) (by simp), ((hbw2.setCell (by simp) _).setCell (by simp) _).alloc (by simp; omega) _⟩)
        | (refine bodyPost_ret (v := .agg #[.slice (some ⟨w2.heap.size, 0, none⟩) 2 2, .slice (some ⟨w2.heap.size + 1, 0, none⟩) 2 2]) ?_ rfl ?_
           · rw [results_cell1 rfl]
             go_simp
           · have hou : Out w.heap.size (w.heap.size + 1) w2 ((w2.setCell ⟨w.heap.size, 0, none⟩ (.slice (some ⟨w2.heap.size, 0, none⟩) 2 2)).setCell ⟨w.heap.size, 1, none⟩ (.slice (some ⟨w2.heap.size + 1, 0, none⟩) 2 2)) := (out_setCell (by simp) (by simp) _).trans (out_setCell (by simp) (by simp) _)
             have hE := sumEnd2 _ (w.heap.size + 1) w1.heap.size ra rn rc r0 a2 n2 c2 _ 1 2 (hri.out hou (.inr (Nat.le_refl _))) ((OwnIn.out (lo := w1.heap.size) (hi := w2.heap.size) (hin2.mono (by simp) (Nat.le_refl _)) hou (.inr (by omega))).mono (Nat.le_refl _) (by simp)) (by omega) (by simp; omega)
             simp only [World.size_setCell] at hE
             rw [HE1.out, HR0.out]
             exact ⟨_, _, _, _, _, _, rfl, hE.mono (by omega) (by simp), (((hbw2.setCell (by simp) _).setCell (by simp) _).alloc (by simp; omega) _).alloc (by simp; omega) _⟩)
        | (refine bodyPost_ret (v := .agg #[.slice (some ⟨w2.heap.size + 1, 0, none⟩) 2 2, .slice (some ⟨w2.heap.size, 0, none⟩) 2 2]) ?_ rfl ?_
           · rw [results_cell1 rfl]
             go_simp
           · have hou : Out w.heap.size (w.heap.size + 1) w2 ((w2.setCell ⟨w.heap.size, 0, none⟩ (.slice (some ⟨w2.heap.size + 1, 0, none⟩) 2 2)).setCell ⟨w.heap.size, 1, none⟩ (.slice (some ⟨w2.heap.size, 0, none⟩) 2 2)) := (out_setCell (by simp) (by simp) _).trans (out_setCell (by simp) (by simp) _)
             have hE := sumEnd3 _ (w.heap.size + 1) w1.heap.size ra rn rc r0 a2 n2 c2 _ 1 2 (hri.out hou (.inr (Nat.le_refl _))) ((OwnIn.out (lo := w1.heap.size) (hi := w2.heap.size) (hin2.mono (by simp) (Nat.le_refl _)) hou (.inr (by omega))).mono (Nat.le_refl _) (by simp)) (by omega) (by simp; omega)
             simp only [World.size_setCell] at hE
             rw [HE1.out, HR0.out]
             exact ⟨_, _, _, _, _, _, rfl, hE.mono (by omega) (by simp), (((hbw2.setCell (by simp) _).setCell (by simp) _).alloc (by simp; omega) _).alloc (by simp; omega) _⟩)
    · have hs' : ¬ ((1 : Int) < (n1 : Int)) := by omega
      have hSk := skewParts_any a n c xs w1 (h.below hbw1) hp
      go_wp2_with fail
      refine hSk.mono ?_
      rintro e wk ⟨ak, nk, ck, rfl, hok, hbk⟩
      have tk1 := cellThru hbk hlt1 t1
      have tk2 := cellThru hbk hlt1 t2
      have fk1 := frozenThru hbk hlt1 f1
      have fk2 := frozenThru hbk hlt1 f2
      have hszk := hbk.size
      have hltk : w.heap.size < wk.heap.size := by omega
      have hbwk : Below w.heap.size w wk := hbw1.trans (hbk.mono hbw1.size)
      have hok' : OwnII wk (w.heap.size + 1) wk.heap.size ak nk ck (skewPs xs) := hok.mono (by omega) (Nat.le_refl _)
      have HLk : Hid ((skewPs xs).length = nk) := hok.len
      have hnkb : nk ≤ 8 := by have h1 := HLk.out; have h3 : (skewPs xs).length ≤ 8 := (by unfold skewPs; rw [List.length_map]; exact length_sumPs (perm8_compl hp.out)); omega
      clear hSk hok t1 t2 f1 f2 ho1' hlt1
      by_cases hs2 : 1 < nk
      · have e1 : splR xs = [2, 1] := by unfold splR; rw [if_neg (by rw [HN.out]; omega), if_neg (by rw [HL1.out]; exact hs), if_pos (by rw [HLk.out]; exact hs2)]
        have e2 : splP xs = sumSplit true (skewPs xs) := by unfold splP; rw [if_neg (by rw [HN.out]; omega), if_neg (by rw [HL1.out]; exact hs), if_pos (by rw [HLk.out]; exact hs2)]
        have HE1 := Lib.hid e1
        have HJO := (sumSplit_spec (sk := true) (by rw [HLk.out]; exact hs2) (rows_skewPs hp.out) (pos_skewPs xs) (totL_skewPs xs) hp.out.1).1
        have hii := hok'.iisT ⟨by have h1 := totL_skewPs xs; have h3 := hp.out.1; omega, by have h1 := HLk.out; omega⟩
        have hcap := hok'.capOf
        obtain ⟨g, ra, rn, rc, r0, rfl, hcell, hrow, HX, _⟩ := hok'.row (k := 0) (by omega)
        have hg : g < wk.heap.size := World.block_lt_of_cell? wk _ hcell
        have hd := hii.drop (k := 1) (by omega)
        have hJ : ∀ W, Below wk.heap.size wk W → Calls Try.prog 117 #[.slice (some ⟨g, 1, none⟩) (nk - 1) (ck - 1), .bool true] W fun e w' => ∃ a2 n2 c2, e = .returned (.slice a2 n2 c2) ∧ OwnI w' W.heap.size a2 n2 c2 (jn true ((skewPs xs).drop 1) ((skewPs xs).drop 1).length) ∧ Below W.heap.size W w' ∧ Below wk.heap.size wk w' ∧ wk.heap.size ≤ W.heap.size :=
          fun W hb => (joinParts_any _ _ _ _ true W (by have := hd.below hb; simpa using this) HJO).mono fun e w' ⟨a2, n2, c2, he, ho, hb'⟩ => ⟨a2, n2, c2, he, ho, hb', hb.trans (hb'.mono hb.size), hb.size⟩
        have HR0 : Hid (splP xs = [r0, jn true ((skewPs xs).drop 1) ((skewPs xs).drop 1).length]) := by
          show _ = _; rw [e2]; unfold sumSplit; rw [getD_of HX.out]
        have HJ := Lib.hid hJ
        have hc1 : ¬ (ck = 1) := by omega
        have hc2 : (1 : Int) ≤ (nk : Int) := by omega
        have hc4 : 0 < nk := by omega
        have hc3 : (nk : Int) ≤ (ck : Int) := by omega
        clear hJ hd hii hok' e1 e2 HJO
        go_wp2_with fail
        go_region_law ((first
          | (go_simp; go_at_call 117; refine (HJ.out _ (by first | exact (Below.refl _ _).drew | exact (below_alloc _ _).drew)).mono ?_; rintro e w2 ⟨a2, n2, c2, rfl, ho2, hb2, hb3, hsz2⟩; have u1 := cellThru hb3 hltk tk1; have u2 := cellThru hb3 hltk tk2; have k1 := frozenThru hb3 hltk fk1; have k2 := frozenThru hb3 hltk fk2; have u3 := cellThru hb3 hg hcell; have hlt2 := Nat.lt_of_lt_of_le hltk hb3.size; have hg2 := Nat.lt_of_lt_of_le hg hb3.size; have hri := hrow.below hb3; try (have hroot2 : OwnIn w2 wk.heap.size (wk.heap.size + 1) (some ⟨wk.heap.size, 0, none⟩) 2 2 [2, 1] := OwnIn.below (w := (wk.alloc (.cells #[.int .i64 2, .int .i64 1] 3)).drew) (litAt wk wk.heap.size rfl [2, 1] (by simp)) hb2))))
        all_goals
          have hbw2 : Below w.heap.size w w2 := hbwk.trans (hb3.mono hbwk.size)
          have hin2 := ho2.ins
          have hsz3 := hb3.size
          go_wp2
          (try simp only [Exit.inBlock, Exit.then])
          clear HJ
          first
          | (refine bodyPost_ret (v := .agg #[.slice (some ⟨wk.heap.size, 0, none⟩) 2 2, .slice (some ⟨w2.heap.size, 0, none⟩) 2 2]) ?_ rfl ?_
             · rw [results_cell1 rfl]
               go_simp
             · have hou : Out w.heap.size (w.heap.size + 1) w2 ((w2.setCell ⟨w.heap.size, 0, none⟩ (.slice (some ⟨wk.heap.size, 0, none⟩) 2 2)).setCell ⟨w.heap.size, 1, none⟩ (.slice (some ⟨w2.heap.size, 0, none⟩) 2 2)) := (out_setCell (by simp) (by simp) _).trans (out_setCell (by simp) (by simp) _)
               have hsb : wk.heap.size + 1 ≤ w2.heap.size := by have := hb2.size; simpa using this
               have hE := sumEnd1 _ (w.heap.size + 1) wk.heap.size ra rn rc r0 a2 n2 c2 _ [2, 1] (hri.out hou (.inr (Nat.le_refl _))) (hroot2.out hou (.inr (by omega))) ((OwnIn.out (lo := wk.heap.size + 1) (hi := w2.heap.size) (hin2.mono (by simp) (Nat.le_refl _)) hou (.inr (by omega))).mono (Nat.le_refl _) (by simp)) (by omega) (by simp; omega)
               simp only [World.size_setCell] at hE
               rw [HE1.out, HR0.out]
               exact ⟨_, _, _, _, _, _, rfl, hE.mono (by omega) (by simp), ((hbw2.setCell (by simp) _).setCell (by simp) _).alloc (by simp; omega) _⟩)
          | (refine bodyPost_ret (v := .agg #[.slice (some ⟨w2.heap.size, 0, none⟩) 2 2, .slice (some ⟨w2.heap.size + 1, 0, none⟩) 2 2]) ?_ rfl ?_
             · rw [results_cell1 rfl]
               go_simp
             · have hou : Out w.heap.size (w.heap.size + 1) w2 ((w2.setCell ⟨w.heap.size, 0, none⟩ (.slice (some ⟨w2.heap.size, 0, none⟩) 2 2)).setCell ⟨w.heap.size, 1, none⟩ (.slice (some ⟨w2.heap.size + 1, 0, none⟩) 2 2)) := (out_setCell (by simp) (by simp) _).trans (out_setCell (by simp) (by simp) _)
               have hE := sumEnd2 _ (w.heap.size + 1) wk.heap.size ra rn rc r0 a2 n2 c2 _ 2 1 (hri.out hou (.inr (Nat.le_refl _))) ((OwnIn.out (lo := wk.heap.size) (hi := w2.heap.size) (hin2.mono (by simp) (Nat.le_refl _)) hou (.inr (by omega))).mono (Nat.le_refl _) (by simp)) (by omega) (by simp; omega)
               simp only [World.size_setCell] at hE
               rw [HE1.out, HR0.out]
               exact ⟨_, _, _, _, _, _, rfl, hE.mono (by omega) (by simp), (((hbw2.setCell (by simp) _).setCell (by simp) _).alloc (by simp; omega) _).alloc (by simp; omega) _⟩)
          | (refine bodyPost_ret (v := .agg #[.slice (some ⟨w2.heap.size + 1, 0, none⟩) 2 2, .slice (some ⟨w2.heap.size, 0, none⟩) 2 2]) ?_ rfl ?_
             · rw [results_cell1 rfl]
               go_simp
             · have hou : Out w.heap.size (w.heap.size + 1) w2 ((w2.setCell ⟨w.heap.size, 0, none⟩ (.slice (some ⟨w2.heap.size + 1, 0, none⟩) 2 2)).setCell ⟨w.heap.size, 1, none⟩ (.slice (some ⟨w2.heap.size, 0, none⟩) 2 2)) := (out_setCell (by simp) (by simp) _).trans (out_setCell (by simp) (by simp) _)
               have hE := sumEnd3 _ (w.heap.size + 1) wk.heap.size ra rn rc r0 a2 n2 c2 _ 2 1 (hri.out hou (.inr (Nat.le_refl _))) ((OwnIn.out (lo := wk.heap.size) (hi := w2.heap.size) (hin2.mono (by simp) (Nat.le_refl _)) hou (.inr (by omega))).mono (Nat.le_refl _) (by simp)) (by omega) (by simp; omega)
               simp only [World.size_setCell] at hE
               rw [HE1.out, HR0.out]
               exact ⟨_, _, _, _, _, _, rfl, hE.mono (by omega) (by simp), (((hbw2.setCell (by simp) _).setCell (by simp) _).alloc (by simp; omega) _).alloc (by simp; omega) _⟩)
      · have hs2' : ¬ ((1 : Int) < (nk : Int)) := by omega
        have HE1 : Hid (splR xs = pat ((segs xs).map (headOf xs))) := by
          show _ = _; unfold splR; rw [if_neg (by rw [HN.out]; omega), if_neg (by rw [HL1.out]; exact hs), if_neg (by rw [HLk.out]; exact hs2)]
        have HE2 : Hid (splP xs = (segs xs).map (partOf xs)) := by
          show _ = _; unfold splP; rw [if_neg (by rw [HN.out]; omega), if_neg (by rw [HL1.out]; exact hs), if_neg (by rw [HLk.out]; exact hs2)]
        have hU : Hid (Upb 1048576 xs) := hp.out.upb
        have hnc := h.2.2.2.1
        obtain ⟨ab, ao, x0, rfl, _, _⟩ := h.1.at (i := 0) (by rw [HN.out]; omega)
        have HW := Lib.hid (h.below hbwk)
        have hbs0 : Below wk.heap.size wk ((wk.alloc (.cells #[.slice none 0 0, .slice none 0 0] 25)).alloc (.cells #[] 3)) := (below_alloc wk _).alloc (by simp) _
        have hO6 : OwnI ((wk.alloc (.cells #[.slice none 0 0, .slice none 0 0] 25)).alloc (.cells #[] 3)) (wk.heap.size + 1) (some ⟨wk.heap.size + 1, 0, none⟩) 0 0 [] := by
          have := OwnI.lit0 (wk.alloc (.cells #[.slice none 0 0, .slice none 0 0] 25)); simpa using this
        go_wp2
        go_loopw [6, 7, 8, 9] (fun hv fv _ _ wr => ∃ (f gd q c6 c5 : Nat) (done : List (Nat × Nat)) (a6 a5 : Option Addr) (rs : List (Option Addr × Nat × Nat)),
          f ≤ n ∧ n - f ≤ gd ∧ q ≤ f ∧ fv = .int .i64 (f : Int) ∧ hv = .slice a6 q c6 ∧ Hid (segs xs = done ++ dfl xs gd f) ∧ OwnI wr (wk.heap.size + 1) a6 q c6 (done.map (headOf xs)) ∧
          wr.cell? ⟨wk.heap.size, 0, none⟩ = some (.slice none 0 0) ∧ wr.cell? ⟨wk.heap.size, 1, none⟩ = some (.slice a5 q c5) ∧ wr.frozen? ⟨wk.heap.size, 0, none⟩ = false ∧ wr.frozen? ⟨wk.heap.size, 1, none⟩ = false ∧
          Hid (OwnIIr wr (wk.heap.size + 1) wr.heap.size a5 q c5 rs (done.map (partOf xs))) ∧ Hid (∀ r ∈ rs, ∀ p q, r.1 = some p → a6 = some q → p.block ≠ q.block) ∧ Below wk.heap.size wk wr ∧ wk.heap.size + 1 ≤ wr.heap.size) (fun _ fv _ _ _ => n - (intOf fv).toNat)
        case atStart =>
          refine ⟨0, n, 0, 0, 0, [], _, none, [], Nat.zero_le _, by omega, Nat.le_refl _, rfl, rfl, by simp [Hid, segs, HN.out], hO6, ?_, ?_, ?_, ?_, ?_, by simp [Hid], hbs0, by simp⟩
          · rw [World.cell?_alloc_past (hn := by simp), World.cell?_alloc_at (hn := rfl)]; rfl
          · rw [World.cell?_alloc_past (hn := by simp), World.cell?_alloc_at (hn := rfl)]; rfl
          · rw [World.frozen?_alloc_past (hn := by simp), World.frozen?_alloc_at (hn := rfl)]
          · rw [World.frozen?_alloc_past (hn := by simp), World.frozen?_alloc_at (hn := rfl)]
          · exact ⟨rfl, rfl, World.ownsRow_nil _ _ _ _, by simp, by simp, by simp⟩
        case round =>
          obtain ⟨f, gd, q, c6, c5, done, a6, a5, rs, hf, hgd, hqf, rfl, rfl, HS, ho6, m1, m2, fz1, fz2, HO5, HD, hb, hsz⟩ := hrel
          by_cases hlt : f < n
          · have hsr := HW.out.below hb
            obtain ⟨gd', hdn, hgd'⟩ := dfl_next (xs := xs) (g := gd) (f := f) (by rw [HN.out]; exact hlt) (by rw [HN.out]; exact hgd)
            have htb := toOf_bd (xs := xs) (f := f) (by rw [HN.out]; exact hlt)
            have HTO : Hid (toOf xs f = upTo xs f (n - f - 1)) := by show _ = _; unfold toOf; rw [HN.out]
            rw [HN.out] at htb hgd'
            have HDN := Lib.hid hdn
            obtain ⟨v, hv, HV⟩ := hsr.1.cell (i := f) (by rw [HN.out]; exact hlt)
            have HSR := Lib.hid hsr
            clear hdn hsr
            obtain ⟨wo, rfl⟩ : ∃ wo : World, wo = wr := ⟨_, rfl⟩
            go_wp2
            go_loop [8, 9] (fun tv kv => ∃ j : Nat, f + 1 + j ≤ n ∧ kv = .int .i64 ((f : Int) + ((j : Int) + 2)) ∧ tv = .int .i64 ((upTo xs f j : Nat) : Int)) (fun _ kv => n + 2 - (intOf kv).toNat)
            case atStart => exact ⟨0, by omega, by go_num, by go_num⟩
            case round =>
              obtain ⟨j, hj, rfl, rfl⟩ := hrel
              have hub := upTo_bd xs f j
              by_cases hlj : f + (j + 2) ≤ n
              · have hgo : (f : Int) + ((j : Int) + 2) ≤ (n : Int) := by omega
                by_cases hm : j + 2 < n
                · have hm' : (f : Int) + ((j : Int) + 2) - (f : Int) < (n : Int) := by omega
                  have hI := isInterval_any _ n c f (j + 2) xs wo HSR.out hU (by omega) hlj ((f : Int) + ((j : Int) + 2)) (by omega)
                  have HU : Hid (upTo xs f (j + 1) = if runB xs f (j + 2) = true then f + 2 + j else upTo xs f j) := by
                    show _ = _; rw [upTo]
                    by_cases hr : runB xs f (j + 2) = true
                    · rw [if_pos ⟨by rw [HN.out]; exact hm, hr⟩, if_pos hr]
                    · rw [if_neg (fun h => hr h.2), if_neg hr]
                  cases hr : runB xs f (j + 2)
                  · have HU2 : Hid (upTo xs f (j + 1) = upTo xs f j) := by show _ = _; have := HU.out; rw [hr] at this; simpa using this
                    rw [hr] at hI
                    go_wp2_with fail
                    refine hI.mono ?_
                    rintro e w2 ⟨rfl, hw2⟩
                    obtain rfl : wo = w2 := hw2.symm
                    clear hI hr
                    go_wp2
                    go_round
                    case rel => exact ⟨j + 1, by omega, by go_num, by rw [HU2.out]⟩
                    case measure => simp [intOf]; omega
                  · have HU2 : Hid (upTo xs f (j + 1) = f + 2 + j) := by show _ = _; have := HU.out; rw [hr] at this; simpa using this
                    rw [hr] at hI
                    go_wp2_with fail
                    refine hI.mono ?_
                    rintro e w2 ⟨rfl, hw2⟩
                    obtain rfl : wo = w2 := hw2.symm
                    clear hI hr
                    go_wp2
                    go_round
                    case rel => exact ⟨j + 1, by omega, by go_num, by rw [HU2.out]; go_num⟩
                    case measure => simp [intOf]; omega
                · have hm' : ¬ ((f : Int) + ((j : Int) + 2) - (f : Int) < (n : Int)) := by omega
                  have HU2 : Hid (upTo xs f (j + 1) = upTo xs f j) := by show _ = _; rw [upTo, if_neg (fun h => hm (by rw [← HN.out]; exact h.1))]
                  go_wp2
                  go_round
                  case rel => exact ⟨j + 1, by omega, by go_num, by rw [HU2.out]⟩
                  case measure => simp [intOf]; omega
              · have hgo : ¬ ((f : Int) + ((j : Int) + 2) ≤ (n : Int)) := by omega
                have HTj : Hid (upTo xs f j = toOf xs f) := by show _ = _; rw [HTO.out, show n - f - 1 = j by omega]
                rw [HTj.out]
                obtain ⟨T, hT⟩ : ∃ T, T = toOf xs f := ⟨_, rfl⟩
                rw [← hT] at htb hgd' ⊢
                have HT := Lib.hid hT
                clear hT hub
                obtain ⟨ht1, ht2⟩ := htb
                go_wp2_with (at_builtin; refine wpList_appIx rfl _ _ rfl (wk.heap.size + 1) _ _ _ _ rfl ho6 _ rfl (by omega) hsz ?_)
                intro a7 c7 w1 ho7 hg7 hloc
                have hne6 : some wk.heap.size ≠ (Value.slice a6 q c6).ownBlock := by
                  intro e
                  obtain ⟨p, hp', hpb⟩ := ownBlock_some e.symm
                  have := (ho6.lo p hp').1; omega
                have hltw : wk.heap.size < wo.heap.size := by omega
                have m1' := hg7.cell m1 hne6
                have m2' := hg7.cell m2 hne6
                have z1' : w1.frozen? ⟨wk.heap.size, 0, none⟩ = false := (World.frozen?_of_block (w := wo) (hg7.block _ hltw hne6)).trans fz1
                have z2' : w1.frozen? ⟨wk.heap.size, 1, none⟩ = false := (World.frozen?_of_block (w := wo) (hg7.block _ hltw hne6)).trans fz2
                have hsz7 := hg7.size
                have HO51 : Hid (OwnIIr w1 (wk.heap.size + 1) wo.heap.size a5 q c5 rs (done.map (partOf xs))) := HO5.out.grownRow hg7 (fun k hk r hr p hp' => by
                  obtain ⟨q', hq', hqb⟩ := ownBlock_some hk
                  rw [← hqb]; exact HD.out r hr p q' hp' hq') (own_types_ne HO5.out.2.2.1 ho6.2 (by decide))
                have hb1' : Below wk.heap.size wk w1 := hb.grown hg7 (by omega) (fun k hk => by
                  obtain ⟨p, hp', hpb⟩ := ownBlock_some hk
                  have := (ho6.lo p hp').1; omega)
                have HD1 : Hid (∀ r ∈ rs, ∀ p q, r.1 = some p → a7 = some q → p.block < wo.heap.size ∧ p.block ≠ q.block) := by
                  intro r hr p q' hp' hq'
                  obtain ⟨i, hi⟩ := List.getElem?_of_mem hr
                  obtain ⟨g1, g2, g3, g4, g5, g6⟩ := HO5.out
                  have hil := (List.getElem?_eq_some_iff.1 hi).1
                  have hpb := (g5 i r _ hi (List.getElem?_eq_getElem (by omega))).2 p hp'
                  refine ⟨hpb, ?_⟩
                  rcases hloc q' hq' with h1 | h1
                  · exact HD.out r hr p q' hp' h1
                  · omega
                have HO7 := Lib.hid ho7
                have ha7 : Hid (∀ q, a7 = some q → q.block < w1.heap.size) := fun q hq => (ho7.lo q hq).2
                have hcf : ¬ (c = f) := by omega
                have hs8 : ∀ W, Below w1.heap.size w1 W → Calls Try.prog 80 #[.slice (some ⟨ab, ao + f, none⟩) (T - f) (c - f)] W (RetI W (partOf xs (f, T))) := by
                  intro W hbW
                  have hx := (HW.out.below hb1').below hbW
                  exact pattern_any _ _ _ _ _ ⟨(hx.1.drop f).take (T - f), by rw [List.length_take, List.length_drop, HN.out]; omega, by omega, by omega, by simp⟩
                have HP8 := Lib.hid hs8
                have i1 : (f : Int) ≤ (T : Int) := by omega
                have i2 : (T : Int) ≤ (c : Int) := by omega
                have i3 : (0 : Int) ≤ (f : Int) := by omega
                have hlt5 : wk.heap.size < w1.heap.size := by omega
                clear hs8 ho7 ho6 hg7 hloc m1 m2 fz1 fz2 HO5 HD
                go_wp2_with fail
                go_region_law ((first
                  | (go_simp; go_at_call 80; refine (HP8.out _ (Below.refl _ _).drew).mono ?_; rintro e w2 ⟨a8, n8, c8, rfl, ho8, hb8⟩; have hw12 : Below w1.heap.size w1 w2 := (Below.refl _ w1).drew.trans hb8; have y1 := cellThru hw12 hlt5 m1'; have y2 := cellThru hw12 hlt5 m2'; have x1 := frozenThru hw12 hlt5 z1'; have x2 := frozenThru hw12 hlt5 z2'; have hz12 := hw12.size; have HO52 := HO51.out.below hw12; have hlt52 := Nat.lt_of_lt_of_le hlt5 hz12)
                  | (refine step_append_row rfl _ _ rfl (wk.heap.size + 1) wo.heap.size _ _ _ _ _ rfl HO52 a8 n8 c8 w1.heap.size _ ho8 hsz7 (by omega) rfl (by omega) (by omega) (by omega) ?_; intro a9 c9 w3 hO9 hg9; have hne9 : some wk.heap.size ≠ (Value.slice a5 q c5).ownBlock := (by intro e; obtain ⟨p, hp', hpb⟩ := ownBlock_some e.symm; subst hp'; have := (HO52.2.2.1.lt _ rfl).1; omega); have k1 := hg9.cell y1 hne9; have k2 := hg9.cell y2 hne9; have l1 : w3.frozen? ⟨wk.heap.size, 0, none⟩ = false := (World.frozen?_of_block (w := w2) (hg9.block _ hlt52 hne9)).trans x1; have l2 : w3.frozen? ⟨wk.heap.size, 1, none⟩ = false := (World.frozen?_of_block (w := w2) (hg9.block _ hlt52 hne9)).trans x2)))
                all_goals
                  have hsz9 := hg9.size
                  have hou : Out wk.heap.size (wk.heap.size + 1) w3 (w3.setCell ⟨wk.heap.size, 1, none⟩ (.slice a9 (q + 1) c9)) := out_setCell (by simp) (by simp) _
                  have hb9 : Below wk.heap.size wk w3 := ((hb1'.trans (hw12.mono (by omega))).grown hg9 (by omega) (fun k hk => by
                    obtain ⟨p, hp', hpb⟩ := ownBlock_some hk
                    subst hp'
                    have := (HO52.2.2.1.lt _ rfl).1; omega))
                  have hh7 : OwnI (w3.setCell ⟨wk.heap.size, 1, none⟩ (.slice a9 (q + 1) c9)) (wk.heap.size + 1) a7 (q + 1) c7 ((done ++ [(f, T)]).map (headOf xs)) := by
                    have e1 : (done ++ [(f, T)]).map (headOf xs) = done.map (headOf xs) ++ [v] := by
                      rw [List.map_append]; simp only [List.map_cons, List.map_nil, headOf, getD_of HV.out]
                    rw [e1]
                    have h1 := (HO7.out.below hw12).grown hg9 (own_types_ne (HO7.out.below hw12).2 HO52.2.2.1 (by decide))
                    exact (OwnIn.out h1.ins hou (.inr (Nat.le_refl _))).1
                  have hh9 : OwnIIr (w3.setCell ⟨wk.heap.size, 1, none⟩ (.slice a9 (q + 1) c9)) (wk.heap.size + 1) (w3.setCell ⟨wk.heap.size, 1, none⟩ (.slice a9 (q + 1) c9)).heap.size a9 (q + 1) c9 (rs ++ [(a8, n8, c8)]) ((done ++ [(f, T)]).map (partOf xs)) := by
                    have e1 : (done ++ [(f, T)]).map (partOf xs) = done.map (partOf xs) ++ [partOf xs (f, T)] := by rw [List.map_append]; rfl
                    rw [e1]
                    exact (hO9.out hou (.inr (Nat.le_refl _))).mono (Nat.le_refl _) (by simp)
                  have HH7 := Lib.hid hh7
                  have HH9 := Lib.hid hh9
                  have hd9 : ∀ r ∈ rs ++ [(a8, n8, c8)], ∀ p q, r.1 = some p → a7 = some q → p.block ≠ q.block := by
                    intro r hr p q' hp' hq'
                    rcases List.mem_append.1 hr with h1 | h1
                    · exact (HD1.out r h1 p q' hp' hq').2
                    · simp only [List.mem_singleton] at h1
                      subst h1
                      have e1 := (ho8.lo p hp').1
                      have e2 := ha7.out q' hq'
                      simp at e1
                      omega
                  have HD9 := Lib.hid hd9
                  have hcl0 : (w3.setCell ⟨wk.heap.size, 1, none⟩ (.slice a9 (q + 1) c9)).cell? ⟨wk.heap.size, 0, none⟩ = some (.slice none 0 0) := by rw [World.cell?_setCell_other _ _ _ _ (by simp)]; exact k1
                  have hcl1 : (w3.setCell ⟨wk.heap.size, 1, none⟩ (.slice a9 (q + 1) c9)).cell? ⟨wk.heap.size, 1, none⟩ = some (.slice a9 (q + 1) c9) := World.cell?_setCell_same _ _ _ k2
                  have hfr0 : (w3.setCell ⟨wk.heap.size, 1, none⟩ (.slice a9 (q + 1) c9)).frozen? ⟨wk.heap.size, 0, none⟩ = false := by rw [World.frozen?_setCell]; exact l1
                  have hfr1 : (w3.setCell ⟨wk.heap.size, 1, none⟩ (.slice a9 (q + 1) c9)).frozen? ⟨wk.heap.size, 1, none⟩ = false := by rw [World.frozen?_setCell]; exact l2
                  have hbS : Below wk.heap.size wk (w3.setCell ⟨wk.heap.size, 1, none⟩ (.slice a9 (q + 1) c9)) := hb9.setCell (by simp) _
                  have HALL := Lib.hid (And.intro hcl0 (And.intro hcl1 (And.intro hfr0 (And.intro hfr1 hbS))))
                  have HSZ : wk.heap.size + 1 ≤ (w3.setCell ⟨wk.heap.size, 1, none⟩ (.slice a9 (q + 1) c9)).heap.size := by rw [World.size_setCell]; omega
                  have HS9 : Hid (segs xs = (done ++ [(f, T)]) ++ dfl xs gd' T) := by
                    show _ = _
                    rw [HS.out, HDN.out, ← HT.out, List.append_assoc]; rfl
                  clear hcl0 hcl1 hfr0 hfr1 hbS hh7 hh9 hd9 hO9 hg9 ho8 hb8 HO52
                  go_wp2
                  go_roundw
                  case rel => exact ⟨T, gd', q + 1, c7, c9, done ++ [(f, T)], a7, a9, rs ++ [(a8, n8, c8)], by omega, by omega, by omega, rfl, rfl, HS9, HH7.out, HALL.out.1, HALL.out.2.1, HALL.out.2.2.1, HALL.out.2.2.2.1, HH9, HD9, HALL.out.2.2.2.2, HSZ⟩
                  case measure => simp [intOf]; omega
          · obtain rfl : f = n := by omega
            have HSd : Hid (segs xs = done) := by
              show _ = _; rw [HS.out, dfl_end (by rw [HN.out]; exact Nat.le_refl _), List.append_nil]
            have hq8 : q ≤ 8 := by omega
            have hP := pattern_any a6 q c6 _ wr (ho6.sl (by omega))
            have q1 := cellThru hb hltk tk1
            have q2 := cellThru hb hltk tk2
            have q3 := frozenThru hb hltk fk1
            have q4 := frozenThru hb hltk fk2
            have hltr := Nat.lt_of_lt_of_le hltk hb.size
            have hlt5 : wk.heap.size < wr.heap.size := by omega
            have HB := Lib.hid hb
            clear ho6 HW
            go_wp2_with fail
            refine hP.mono ?_
            rintro e w2 ⟨a8, n8, c8, rfl, ho8, hb8⟩
            have r1 := cellThru hb8 hltr q1
            have r2 := cellThru hb8 hltr q2
            have r3 := frozenThru hb8 hltr q3
            have r4 := frozenThru hb8 hltr q4
            have r5 := cellThru hb8 hlt5 m1
            have r6 := cellThru hb8 hlt5 m2
            have r7 := frozenThru hb8 hlt5 fz1
            have r8 := frozenThru hb8 hlt5 fz2
            have hsz8 := hb8.size
            have hlt8 := Nat.lt_of_lt_of_le hltr hsz8
            have hlt58 := Nat.lt_of_lt_of_le hlt5 hsz8
            have hnn : ¬ (w.heap.size = wk.heap.size) := by omega
            have hnn' : ¬ (wk.heap.size = w.heap.size) := by omega
            clear hP q1 q2 q3 q4 m1 m2 fz1 fz2
            go_wp2
            (try simp only [Exit.inBlock, Exit.then])
            refine bodyPost_ret (v := .agg #[.slice a8 n8 c8, .slice a5 q c5]) ?_ rfl ?_
            · rw [results_cell1 rfl]
              go_simp
            · have hou : Out w.heap.size (wk.heap.size + 1) w2 (((w2.setCell ⟨wk.heap.size, 0, none⟩ (.slice a8 n8 c8)).setCell ⟨w.heap.size, 0, none⟩ (.slice a8 n8 c8)).setCell ⟨w.heap.size, 1, none⟩ (.slice a5 q c5)) :=
                ((out_setCell (by simp; omega) (by simp) _).trans (out_setCell (by simp) (by simp; omega) _)).trans (out_setCell (by simp) (by simp; omega) _)
              have hO5 := HO5.out.below hb8
              have hdis : ∀ r ∈ rs, ∀ p q, r.1 = some p → a8 = some q → p.block ≠ q.block := by
                intro r hr p q' hp' hq'
                obtain ⟨i, hi⟩ := List.getElem?_of_mem hr
                obtain ⟨g1, g2, g3, g4, g5, g6⟩ := HO5.out
                have hil := (List.getElem?_eq_some_iff.1 hi).1
                have hpb := (g5 i r _ hi (List.getElem?_eq_getElem (by omega))).2 p hp'
                have := (ho8.lo q' hq').1
                omega
              have hbe : Below w.heap.size w w2 := (hbwk.trans (HB.out.mono (by omega))).trans (hb8.mono (by omega))
              rw [HE1.out, HE2.out, HSd.out]
              refine ⟨_, _, _, _, _, _, rfl, ⟨rs, (hO5.out hou (.inr (by omega))).mono (by omega) (by simp; omega), (OwnIn.out (ho8.ins.mono (show wk.heap.size + 1 ≤ wr.heap.size from hsz) (Nat.le_refl _)) hou (.inr (by omega))).mono (by omega) (by simp), hdis⟩, ((hbe.setCell (by simp; omega) _).setCell (by simp) _).setCell (by simp) _⟩
end Go.Proofs.Ytjhlianledgiiaa
