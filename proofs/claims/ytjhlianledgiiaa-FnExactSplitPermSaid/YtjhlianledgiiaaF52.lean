/- The reference's split of a sum or a skew sum. Conditions: as the names say. -/
import Derived.Test.YtjhlianledgiiaaF50
namespace Go.Proofs.Ytjhlianledgiiaa
open Go.RowKit

theorem sumEndS (w3 : World) (lo t : Nat) (ra : Option Addr) (rn rc : Nat) (r0 : List Int) (a2 : Option Addr) (n2 c2 : Nat) (J rv : List Int) (hj : OwnIn w3 lo t a2 n2 c2 J) (hroot : OwnIn w3 t (t + 1) (some ⟨t, 0, none⟩) 2 2 rv) (hr : OwnIn w3 (t + 1) w3.heap.size ra rn rc r0) (hlo : lo ≤ t) (ht : t < w3.heap.size) :
    OwnInf (w3.alloc (.cells #[.slice ra rn rc, .slice a2 n2 c2] 22)) lo (w3.alloc (.cells #[.slice ra rn rc, .slice a2 n2 c2] 22)).heap.size (some ⟨t, 0, none⟩) 2 2 rv (some ⟨w3.heap.size, 0, none⟩) 2 2 [r0, J] := by
  have hjb := hj.2
  have hrb : ∀ q, ra = some q → t + 1 ≤ q.block := fun q hq => (hr.1.lo q hq).1
  refine ⟨_, (rows2 w3 w3.heap.size lo w3.heap.size rfl ra rn rc r0 a2 n2 c2 J (hr.mono (by omega) (Nat.le_refl _)) (hj.mono (Nat.le_refl _) (by omega)) (fun p q h1 h2 => by have := hrb p h1; have := hjb q h2; omega) (by omega) (Nat.le_refl _)).mono (Nat.le_refl _) (by simp), (hroot.below (below_alloc _ _)).mono hlo (by simp; omega), ?_⟩
  intro r hr' p q hp hq
  cases hq
  simp only [List.mem_cons, List.not_mem_nil, or_false] at hr'
  rcases hr' with rfl | rfl
  · have := hrb p hp; simp; omega
  · have := hjb p hp; simp; omega

set_option maxHeartbeats 1000000 in
theorem l6Sum_any (a : Option Addr) (n c : Nat) (l : List (List Int)) (sk : Bool) (w : World) (h : IIs w a n c l) (h2 : 1 < n) (hj : Hid (JOk (l.drop 1) (l.drop 1).length)) :
    Calls Try.prog 113 #[.slice a n c, .bool sk] w (RetS w (if sk then [2, 1] else [1, 2]) (sumSplit sk l)) := by
  have hnb := h.2.2.1
  have hnc := h.2.2.2
  obtain ⟨b, o, ra, rn, rc, r0, rfl, hx, hr, HX⟩ := h.at (i := 0) (by omega)
  simp only [Nat.add_zero] at hx
  have hbx := World.block_lt_of_cell? w _ hx
  have hb0 := below_alloc w (.cells #[.slice none 0 0, .slice none 0 0] 25)
  have hd := (h.below hb0).drop (k := 1) (by omega)
  have hJ := spec_JoinParts _ _ _ _ sk _ hd
  have hJe : joinP sk (l.drop 1) = jn sk (l.drop 1) (l.drop 1).length := if_pos hj.out
  rw [hJe, decide_eq_true hj.out] at hJ
  have HE : Hid (sumSplit sk l = [r0, jn sk (l.drop 1) (l.drop 1).length]) := by show _ = _; unfold sumSplit; rw [getD_of HX.out]
  have HR := Lib.hid hr
  have hc1 : ¬ (c = 1) := by omega
  have hc2 : (1 : Int) ≤ (n : Int) := by omega
  have hc4 : 0 < n := by omega
  have hc3 : (n : Int) ≤ (c : Int) := by omega
  have hj8 : (jn sk (l.drop 1) (l.drop 1).length).length ≤ 8 := by rw [length_jn _ _ _ (Nat.le_refl _)]; exact hj.out.2
  generalize jn sk (l.drop 1) (l.drop 1).length = J at *
  clear h hd hJe hr
  cases sk
  · go_enter Try.func113, Try.ntmps113
    go_wp2_with fail
    refine hJ.mono ?_
    rintro e w1 ⟨a2, n2, c2, rfl, ho2, hb2⟩
    have hlt0 : w.heap.size < (w.alloc (.cells #[.slice none 0 0, .slice none 0 0] 25)).heap.size := by simp
    have t1 : w1.cell? ⟨w.heap.size, 0, none⟩ = some (.slice none 0 0) := cellThru hb2 hlt0 (by simp)
    have t2 : w1.cell? ⟨w.heap.size, 1, none⟩ = some (.slice none 0 0) := cellThru hb2 hlt0 (by simp)
    have f1 : w1.frozen? ⟨w.heap.size, 0, none⟩ = false := frozenThru hb2 hlt0 (by simp)
    have f2 : w1.frozen? ⟨w.heap.size, 1, none⟩ = false := frozenThru hb2 hlt0 (by simp)
    have hbw1 : Below w.heap.size w w1 := hb0.trans (hb2.mono (by simp))
    have hx1 := cellThru hbw1 hbx hx
    have hsz1 : w.heap.size + 1 ≤ w1.heap.size := by have := hb2.size; simpa using this
    have hj2 : OwnIn w1 (w.heap.size + 1) w1.heap.size a2 n2 c2 J := (ho2.ins).mono (by simp) (Nat.le_refl _)
    have hr1 := HR.out.below hbw1
    have HR1 := Lib.hid hr1
    have hbx1 := Nat.lt_of_lt_of_le hbx hbw1.size
    have hlt1 : w.heap.size < w1.heap.size := by omega
    clear hJ ho2 hb2 hr1
    have hS : sumSplit false l = [r0, J] := HE.out
    have hba : Below w1.heap.size w1 ((w1.alloc (.cells #[.int .i64 1, .int .i64 2] 3)).alloc (.cells #[] 3)) := ((below_alloc w1 _).alloc (by simp) _)
    have hl0 : OwnI ((w1.alloc (.cells #[.int .i64 1, .int .i64 2] 3)).alloc (.cells #[] 3)) (w1.heap.size + 1) (some ⟨w1.heap.size + 1, 0, none⟩) 0 0 [] := by
      have := OwnI.lit0 (w1.alloc (.cells #[.int .i64 1, .int .i64 2] 3)); simpa using this
    have hroot := litAt w1 (w1.heap.size) (by simp) [1, 2] (by simp)
    have hroot2 : OwnIn ((w1.alloc (.cells #[.int .i64 1, .int .i64 2] 3)).alloc (.cells #[] 3)) (w1.heap.size) (w1.heap.size + 1) (some ⟨w1.heap.size, 0, none⟩) 2 2 [1, 2] := hroot.below (below_alloc _ _)
    have hj3 : OwnIn ((w1.alloc (.cells #[.int .i64 1, .int .i64 2] 3)).alloc (.cells #[] 3)) (w.heap.size + 1) w1.heap.size a2 n2 c2 J := hj2.below hba
    have hra := HR1.out.below hba
    have hx2 : ((w1.alloc (.cells #[.int .i64 1, .int .i64 2] 3)).alloc (.cells #[] 3)).cell? ⟨b, o, none⟩ = some (.slice ra rn rc) := cellThru hba hbx1 hx1
    have u1 : ((w1.alloc (.cells #[.int .i64 1, .int .i64 2] 3)).alloc (.cells #[] 3)).cell? ⟨w.heap.size, 0, none⟩ = some (.slice none 0 0) := cellThru hba hlt1 t1
    have u2 : ((w1.alloc (.cells #[.int .i64 1, .int .i64 2] 3)).alloc (.cells #[] 3)).cell? ⟨w.heap.size, 1, none⟩ = some (.slice none 0 0) := cellThru hba hlt1 t2
    have v1 : ((w1.alloc (.cells #[.int .i64 1, .int .i64 2] 3)).alloc (.cells #[] 3)).frozen? ⟨w.heap.size, 0, none⟩ = false := frozenThru hba hlt1 f1
    have v2 : ((w1.alloc (.cells #[.int .i64 1, .int .i64 2] 3)).alloc (.cells #[] 3)).frozen? ⟨w.heap.size, 1, none⟩ = false := frozenThru hba hlt1 f2
    have hrn := HR1.out.2.2.1
    have hBs : w1.heap.size + 1 ≤ ((w1.alloc (.cells #[.int .i64 1, .int .i64 2] 3)).alloc (.cells #[] 3)).heap.size := by simp
    have Hroot2 := Lib.hid hroot2
    have Hj3 := Lib.hid hj3
    clear hroot hroot2 hj3 hj2
    go_wp2_with (at_builtin; refine wpList_append_any rfl _ _ rfl (w1.heap.size + 1) _ _ _ _ rfl hl0 _ _ _ _ rfl hra (by omega) hBs ?_)
    intro a4 c4 w4 ho4 _ hb4
    have hz4 := hb4.size
    have ho4' : OwnI w4 (w1.heap.size + 1) a4 rn c4 r0 := by simpa using ho4
    have p1 := cellThru hb4 (by simp; omega) u1
    have p2 := cellThru hb4 (by simp; omega) u2
    have q1 := frozenThru hb4 (by simp; omega) v1
    have q2 := frozenThru hb4 (by simp; omega) v2
    have hj4 : OwnIn w4 (w.heap.size + 1) (w1.heap.size) a2 n2 c2 J := OwnIn.mono (show OwnIn w4 (w.heap.size + 1) w1.heap.size a2 n2 c2 J from ⟨Hj3.out.1.belowAt hb4 (fun p hp => by have := Hj3.out.2 p hp; omega), Hj3.out.2⟩) (Nat.le_refl _) (by omega)
    have hr4 : OwnIn w4 (w1.heap.size) (w1.heap.size + 1) (some ⟨w1.heap.size, 0, none⟩) 2 2 [1, 2] := ⟨Hroot2.out.1.belowAt hb4 (fun p hp => by have := Hroot2.out.2 p hp; omega), Hroot2.out.2⟩
    have hlt4 : w.heap.size < w4.heap.size := by simp at hz4; omega
    have hlt4' : w1.heap.size < w4.heap.size := by simp at hz4; omega
    have hbw4 : Below w.heap.size w w4 := (hbw1.trans (hba.mono (by omega))).trans (hb4.mono (by omega))
    have HR4 := Lib.hid (And.intro ho4' (And.intro hj4 hr4))
    clear u1 u2 v1 v2 hl0 hra hx2 hx1 ho4 ho4' hj4 hr4 t1 t2 f1 f2 hb4 hba hx
    go_wp2
    (try simp only [Exit.inBlock, Exit.then])
    refine bodyPost_ret (v := .agg #[.slice (some ⟨w1.heap.size, 0, none⟩) 2 2, .slice (some ⟨w4.heap.size, 0, none⟩) 2 2]) ?_ rfl ?_
    · rw [results_cell1 rfl]
      go_simp
    · have hou : Out w.heap.size (w.heap.size + 1) w4 ((w4.setCell ⟨w.heap.size, 0, none⟩ (.slice (some ⟨w1.heap.size, 0, none⟩) 2 2)).setCell ⟨w.heap.size, 1, none⟩ (.slice (some ⟨w4.heap.size, 0, none⟩) 2 2)) := (out_setCell (by simp) (by simp) _).trans (out_setCell (by simp) (by simp) _)
      have hE := sumEndS _ (w.heap.size + 1) (w1.heap.size) a4 rn c4 r0 a2 n2 c2 J [1, 2] (HR4.out.2.1.out hou (.inr (Nat.le_refl _))) (HR4.out.2.2.out hou (.inr (by omega))) ((OwnIn.out HR4.out.1.ins hou (.inr (by omega))).mono (Nat.le_refl _) (by simp)) (by omega) (by simp; omega)
      simp only [World.size_setCell] at hE
      exact ⟨_, _, _, _, _, _, rfl, hE.mono (by omega) (by simp), ((hbw4.setCell (by simp) _).setCell (by simp) _).alloc (by simp; omega) _⟩
  · go_enter Try.func113, Try.ntmps113
    go_wp2_with fail
    refine hJ.mono ?_
    rintro e w1 ⟨a2, n2, c2, rfl, ho2, hb2⟩
    have hlt0 : w.heap.size < (w.alloc (.cells #[.slice none 0 0, .slice none 0 0] 25)).heap.size := by simp
    have t1 : w1.cell? ⟨w.heap.size, 0, none⟩ = some (.slice none 0 0) := cellThru hb2 hlt0 (by simp)
    have t2 : w1.cell? ⟨w.heap.size, 1, none⟩ = some (.slice none 0 0) := cellThru hb2 hlt0 (by simp)
    have f1 : w1.frozen? ⟨w.heap.size, 0, none⟩ = false := frozenThru hb2 hlt0 (by simp)
    have f2 : w1.frozen? ⟨w.heap.size, 1, none⟩ = false := frozenThru hb2 hlt0 (by simp)
    have hbw1 : Below w.heap.size w w1 := hb0.trans (hb2.mono (by simp))
    have hx1 := cellThru hbw1 hbx hx
    have hsz1 : w.heap.size + 1 ≤ w1.heap.size := by have := hb2.size; simpa using this
    have hj2 : OwnIn w1 (w.heap.size + 1) w1.heap.size a2 n2 c2 J := (ho2.ins).mono (by simp) (Nat.le_refl _)
    have hr1 := HR.out.below hbw1
    have HR1 := Lib.hid hr1
    have hbx1 := Nat.lt_of_lt_of_le hbx hbw1.size
    have hlt1 : w.heap.size < w1.heap.size := by omega
    clear hJ ho2 hb2 hr1
    have hS : sumSplit true l = [r0, J] := HE.out
    have hba : Below w1.heap.size w1 (((w1.alloc (.cells #[.int .i64 1, .int .i64 2] 3)).alloc (.cells #[.int .i64 2, .int .i64 1] 3)).alloc (.cells #[] 3)) := (((below_alloc w1 _).alloc (by simp) _).alloc (by simp; omega) _)
    have hl0 : OwnI (((w1.alloc (.cells #[.int .i64 1, .int .i64 2] 3)).alloc (.cells #[.int .i64 2, .int .i64 1] 3)).alloc (.cells #[] 3)) (w1.heap.size + 1 + 1) (some ⟨w1.heap.size + 1 + 1, 0, none⟩) 0 0 [] := by
      have := OwnI.lit0 ((w1.alloc (.cells #[.int .i64 1, .int .i64 2] 3)).alloc (.cells #[.int .i64 2, .int .i64 1] 3)); simpa using this
    have hroot := litAt (w1.alloc (.cells #[.int .i64 1, .int .i64 2] 3)) (w1.heap.size + 1) (by simp) [2, 1] (by simp)
    have hroot2 : OwnIn (((w1.alloc (.cells #[.int .i64 1, .int .i64 2] 3)).alloc (.cells #[.int .i64 2, .int .i64 1] 3)).alloc (.cells #[] 3)) (w1.heap.size + 1) (w1.heap.size + 1 + 1) (some ⟨w1.heap.size + 1, 0, none⟩) 2 2 [2, 1] := hroot.below (below_alloc _ _)
    have hj3 : OwnIn (((w1.alloc (.cells #[.int .i64 1, .int .i64 2] 3)).alloc (.cells #[.int .i64 2, .int .i64 1] 3)).alloc (.cells #[] 3)) (w.heap.size + 1) w1.heap.size a2 n2 c2 J := hj2.below hba
    have hra := HR1.out.below hba
    have hx2 : (((w1.alloc (.cells #[.int .i64 1, .int .i64 2] 3)).alloc (.cells #[.int .i64 2, .int .i64 1] 3)).alloc (.cells #[] 3)).cell? ⟨b, o, none⟩ = some (.slice ra rn rc) := cellThru hba hbx1 hx1
    have u1 : (((w1.alloc (.cells #[.int .i64 1, .int .i64 2] 3)).alloc (.cells #[.int .i64 2, .int .i64 1] 3)).alloc (.cells #[] 3)).cell? ⟨w.heap.size, 0, none⟩ = some (.slice none 0 0) := cellThru hba hlt1 t1
    have u2 : (((w1.alloc (.cells #[.int .i64 1, .int .i64 2] 3)).alloc (.cells #[.int .i64 2, .int .i64 1] 3)).alloc (.cells #[] 3)).cell? ⟨w.heap.size, 1, none⟩ = some (.slice none 0 0) := cellThru hba hlt1 t2
    have v1 : (((w1.alloc (.cells #[.int .i64 1, .int .i64 2] 3)).alloc (.cells #[.int .i64 2, .int .i64 1] 3)).alloc (.cells #[] 3)).frozen? ⟨w.heap.size, 0, none⟩ = false := frozenThru hba hlt1 f1
    have v2 : (((w1.alloc (.cells #[.int .i64 1, .int .i64 2] 3)).alloc (.cells #[.int .i64 2, .int .i64 1] 3)).alloc (.cells #[] 3)).frozen? ⟨w.heap.size, 1, none⟩ = false := frozenThru hba hlt1 f2
    have hrn := HR1.out.2.2.1
    have hBs : w1.heap.size + 1 + 1 ≤ (((w1.alloc (.cells #[.int .i64 1, .int .i64 2] 3)).alloc (.cells #[.int .i64 2, .int .i64 1] 3)).alloc (.cells #[] 3)).heap.size := by simp
    have Hroot2 := Lib.hid hroot2
    have Hj3 := Lib.hid hj3
    clear hroot hroot2 hj3 hj2
    go_wp2_with (at_builtin; refine wpList_append_any rfl _ _ rfl (w1.heap.size + 1 + 1) _ _ _ _ rfl hl0 _ _ _ _ rfl hra (by omega) hBs ?_)
    intro a4 c4 w4 ho4 _ hb4
    have hz4 := hb4.size
    have ho4' : OwnI w4 (w1.heap.size + 1 + 1) a4 rn c4 r0 := by simpa using ho4
    have p1 := cellThru hb4 (by simp; omega) u1
    have p2 := cellThru hb4 (by simp; omega) u2
    have q1 := frozenThru hb4 (by simp; omega) v1
    have q2 := frozenThru hb4 (by simp; omega) v2
    have hj4 : OwnIn w4 (w.heap.size + 1) (w1.heap.size + 1) a2 n2 c2 J := OwnIn.mono (show OwnIn w4 (w.heap.size + 1) w1.heap.size a2 n2 c2 J from ⟨Hj3.out.1.belowAt hb4 (fun p hp => by have := Hj3.out.2 p hp; omega), Hj3.out.2⟩) (Nat.le_refl _) (by omega)
    have hr4 : OwnIn w4 (w1.heap.size + 1) (w1.heap.size + 1 + 1) (some ⟨w1.heap.size + 1, 0, none⟩) 2 2 [2, 1] := ⟨Hroot2.out.1.belowAt hb4 (fun p hp => by have := Hroot2.out.2 p hp; omega), Hroot2.out.2⟩
    have hlt4 : w.heap.size < w4.heap.size := by simp at hz4; omega
    have hlt4' : w1.heap.size + 1 < w4.heap.size := by simp at hz4; omega
    have hbw4 : Below w.heap.size w w4 := (hbw1.trans (hba.mono (by omega))).trans (hb4.mono (by omega))
    have HR4 := Lib.hid (And.intro ho4' (And.intro hj4 hr4))
    clear u1 u2 v1 v2 hl0 hra hx2 hx1 ho4 ho4' hj4 hr4 t1 t2 f1 f2 hb4 hba hx
    go_wp2
    (try simp only [Exit.inBlock, Exit.then])
    refine bodyPost_ret (v := .agg #[.slice (some ⟨w1.heap.size + 1, 0, none⟩) 2 2, .slice (some ⟨w4.heap.size, 0, none⟩) 2 2]) ?_ rfl ?_
    · rw [results_cell1 rfl]
      go_simp
    · have hou : Out w.heap.size (w.heap.size + 1) w4 ((w4.setCell ⟨w.heap.size, 0, none⟩ (.slice (some ⟨w1.heap.size + 1, 0, none⟩) 2 2)).setCell ⟨w.heap.size, 1, none⟩ (.slice (some ⟨w4.heap.size, 0, none⟩) 2 2)) := (out_setCell (by simp) (by simp) _).trans (out_setCell (by simp) (by simp) _)
      have hE := sumEndS _ (w.heap.size + 1) (w1.heap.size + 1) a4 rn c4 r0 a2 n2 c2 J [2, 1] (HR4.out.2.1.out hou (.inr (Nat.le_refl _))) (HR4.out.2.2.out hou (.inr (by omega))) ((OwnIn.out HR4.out.1.ins hou (.inr (by omega))).mono (Nat.le_refl _) (by simp)) (by omega) (by simp; omega)
      simp only [World.size_setCell] at hE
      exact ⟨_, _, _, _, _, _, rfl, hE.mono (by omega) (by simp), ((hbw4.setCell (by simp) _).setCell (by simp) _).alloc (by simp; omega) _⟩
end Go.Proofs.Ytjhlianledgiiaa
