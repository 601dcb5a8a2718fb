/- The reference's l3Put: a list put into an ordered list, once. Conditions: as the names say. -/
import Derived.Test.YtjhlianledgiiaaF65
namespace Go.Proofs.Ytjhlianledgiiaa
open Go.RowKit

theorem _root_.Go.World.grownBy.trans' {a b c : World} {row : Option Nat} (h : a.grownBy b row) (k : b.grownBy c row) : a.grownBy c row := grownBy_trans h k
/-- The rows with one more between them. -/
theorem putRows {w w9 : World} {lo hi n c g g9 c9 kk : Nat} {rs : List (Option Addr × Nat × Nat)} {xss : List (List Int)} {p : List Int} (h : OwnIIr w lo hi (some ⟨g, 0, none⟩) n c rs xss) (hg : w.grownBy w9 (some g)) (hk : kk ≤ n)
    {a7 : Option Addr} {m c7 t : Nat} (ht : hi ≤ t) (hlo : lo ≤ t) (ho : OwnI w9 t a7 m c7 p) (hown : w9.ownsRow lo 22 1 (.slice (some ⟨g9, 0, none⟩) (n + 1) c9) (n + 1) ((rs.take kk ++ (a7, m, c7) :: rs.drop kk).map sl3)) :
    OwnIIr w9 lo w9.heap.size (some ⟨g9, 0, none⟩) (n + 1) c9 (rs.take kk ++ (a7, m, c7) :: rs.drop kk) (xss.take kk ++ p :: xss.drop kk) := by
  obtain ⟨h1, h2, h3, h4, h5, h6⟩ := h
  have hsz := hg.size
  have old : ∀ (i : Nat) (r : Option Addr × Nat × Nat) (ys : List Int), rs[i]? = some r → xss[i]? = some ys → OwnIn w9 lo w9.heap.size r.1 r.2.1 r.2.2 ys := by
    intro i r ys hr hy
    have q := h5 i r ys hr hy
    exact ((q.1.grown hg (own_types_ne q.1.2 h3 (by decide))).ins).mono (Nat.le_refl _) (Nat.le_refl _)
  have hb : ∀ (i : Nat) (r : Option Addr × Nat × Nat) (q : Addr), rs[i]? = some r → r.1 = some q → q.block < hi := by
    intro i r q hr hq
    have hi' : i < rs.length := (List.getElem?_eq_some_iff.1 hr).1
    exact (h5 i r _ hr (List.getElem?_eq_getElem (by omega))).2 q hq
  have hn : ∀ q, a7 = some q → hi ≤ q.block := fun q hq => by have := (ho.lo q hq).1; omega
  have hlt : (rs.take kk).length = kk := by rw [List.length_take]; omega
  have hlx : (xss.take kk).length = kk := by rw [List.length_take]; omega
  -- the entry at place i
  have ent : ∀ (i : Nat) (r : Option Addr × Nat × Nat), (rs.take kk ++ (a7, m, c7) :: rs.drop kk)[i]? = some r → (i = kk ∧ r = (a7, m, c7)) ∨ ∃ j, rs[j]? = some r ∧ ((i < kk ∧ j = i) ∨ (kk < i ∧ i = j + 1)) := by
    intro i r hr
    rcases Nat.lt_trichotomy i kk with h | h | h
    · rw [List.getElem?_append_left (by omega), List.getElem?_take_of_lt h] at hr
      exact .inr ⟨i, hr, .inl ⟨h, rfl⟩⟩
    · subst h
      rw [List.getElem?_append_right (by omega), hlt, Nat.sub_self] at hr
      simp at hr
      exact .inl ⟨rfl, hr.symm⟩
    · obtain ⟨j, rfl⟩ : ∃ j, i = j + 1 := ⟨i - 1, by omega⟩
      rw [List.getElem?_append_right (by omega), hlt, show j + 1 - kk = (j - kk) + 1 by omega, List.getElem?_cons_succ, List.getElem?_drop, show kk + (j - kk) = j by omega] at hr
      exact .inr ⟨j, hr, .inr ⟨h, rfl⟩⟩
  refine ⟨by rw [List.length_append, List.length_cons, hlx, List.length_drop]; omega, by rw [List.length_append, List.length_cons, hlt, List.length_drop]; omega, hown, fun q hq => by obtain rfl := Option.some.inj hq; exact (hown.lt g9 rfl).2, ?_, ?_⟩
  · intro i r ys hr hy
    rcases ent i r hr with ⟨rfl, rfl⟩ | ⟨j, hj, hij⟩
    · rw [List.getElem?_append_right (by omega), hlx, Nat.sub_self] at hy
      simp at hy
      subst hy
      exact (ho.mono hlo).ins
    · refine old j r ys hj ?_
      rcases hij with ⟨h, rfl⟩ | ⟨h, rfl⟩
      · rw [List.getElem?_append_left (by omega), List.getElem?_take_of_lt h] at hy; exact hy
      · rw [List.getElem?_append_right (by omega), hlx, show j + 1 - kk = (j - kk) + 1 by omega, List.getElem?_cons_succ, List.getElem?_drop, show kk + (j - kk) = j by omega] at hy
        exact hy
  · intro i j r s q q' hij hr hs hq hq'
    rcases ent i r hr with ⟨rfl, rfl⟩ | ⟨i', hi', hi2⟩
    · rcases ent j s hs with ⟨rfl, rfl⟩ | ⟨j', hj', hj2⟩
      · omega
      · have e1 := hn q hq; have e2 := hb j' s q' hj' hq'; omega
    · rcases ent j s hs with ⟨rfl, rfl⟩ | ⟨j', hj', hj2⟩
      · have e1 := hn q' hq'; have e2 := hb i' r q hi' hq; omega
      · exact h6 i' j' r s q q' (by omega) hi' hj' hq hq'

set_option maxHeartbeats 4000000 in
set_option maxRecDepth 100000 in
theorem l3Put_any (g n c lo hi : Nat) (rs : List (Option Addr × Nat × Nat)) (xss : List (List Int)) (b : Option Addr) (m d : Nat) (p : List Int) (w : World) (ho : OwnIIr w lo hi (some ⟨g, 0, none⟩) n c rs xss) (hn : n ≤ 2097152) (hl : Hid (∀ xs ∈ xss, xs.length ≤ 2097152)) (hp : SlI w b m d p) (hhi : hi ≤ w.heap.size) (hlow : lo ≤ w.heap.size) :
    Calls Try.prog 77 #[.slice (some ⟨g, 0, none⟩) n c, .slice b m d] w fun e w' =>
      ∃ g' n' c', e = .returned (.slice (some ⟨g', 0, none⟩) n' c') ∧ OwnII w' lo w'.heap.size (some ⟨g', 0, none⟩) n' c' (putL xss p) ∧ w.grownBy w' (some g) ∧ (g' = g ∨ w.heap.size ≤ g') := by
  have HN : Hid (rs.length = n ∧ xss.length = n) := ⟨ho.2.1, ho.1⟩
  have hnc : n ≤ c := (show OwnII w lo hi _ n c xss from ⟨rs, ho⟩).capOf
  have HO := Lib.hid ho
  have HOw0 : Hid (w.ownsRow lo 22 1 (.slice (some ⟨g, 0, none⟩) n c) n (rs.map sl3)) := ho.2.2.1
  have HP := Lib.hid hp
  have HAt : Hid (putAt xss p xss.length = putAt xss p n) := by show _ = _; rw [HN.out.2]
  clear ho hp
  go_enter Try.func77, Try.ntmps77
  go_wp2
  go_loopw [5] (fun i wr => ∃ k : Nat, k ≤ n ∧ i = .int .i64 (k : Int) ∧ Hid (putAt xss p n = putAt xss p k) ∧ Quiet w wr) (fun i _ => (intOf i).toNat)
  case atStart => exact ⟨n, Nat.le_refl _, rfl, rfl, Quiet.refl _⟩
  case round =>
    obtain ⟨k, hk, rfl, HK, hq⟩ := hrel
    have HOw : Hid (wr.ownsRow lo 22 1 (.slice (some ⟨g, 0, none⟩) n c) n (rs.map sl3)) := by obtain ⟨q, rfl⟩ := hq; exact own_drewN HOw0.out q
    by_cases hk0 : k ≤ 0
    · obtain ⟨kk, rfl⟩ : ∃ kk : Nat, kk = k := ⟨k, rfl⟩
      have HPut : Hid (putL xss p = xss.take kk ++ p :: xss.drop kk) := by
        have e : putAt xss p xss.length = kk := by rw [HAt.out, HK.out, show kk = 0 by omega]; rfl
        show _ = _; unfold putL; rw [e, if_neg (by rintro ⟨h1, _⟩; omega)]
      have g1 : ¬ (0 < kk) := by omega
      have hkn : kk ≤ n := by omega
      have hlk : (rs.drop kk).length = n - kk := by rw [List.length_drop, HN.out.1]
      obtain ⟨A, hA, HAc⟩ : ∃ A : Addr, (if c = kk then some (⟨g, 0, none⟩ : Addr) else some ⟨g, kk, none⟩) = some A ∧ Hid (∀ (j : Nat) u, ((rs.drop kk).map sl3)[j]? = some u → wr.cell? (A.add j) = some u ∧ (A.add j).block = g) := by
        have hown := HOw.out
        by_cases hck : c = kk
        · refine ⟨⟨g, 0, none⟩, by rw [if_pos hck], fun j u hj => ?_⟩
          have h1 := (List.getElem?_eq_some_iff.1 hj).1
          rw [List.length_map, hlk] at h1
          omega
        · refine ⟨⟨g, kk, none⟩, by rw [if_neg hck], fun j u hj => ?_⟩
          have h1 := (List.getElem?_eq_some_iff.1 hj).1
          rw [List.length_map, hlk] at h1
          rw [List.getElem?_map, List.getElem?_drop, ← List.getElem?_map] at hj
          exact ⟨by rw [Addr.add_lit, hown.cellAt (kk + j) (by omega)]; exact hj, by rw [Addr.add_lit]⟩
      have hgs : g < wr.heap.size := (HOw.out.lt g rfl).2
      have hkc : kk ≤ c := by omega
      have hlow' : lo ≤ wr.heap.size := by have := (hq.below 0).size; omega
      have HPr : Hid (SlI wr b m d p) := HP.out.quiet hq
      have HTk : Hid (wr.ownsRow lo 22 1 (.slice (some ⟨g, 0, none⟩) kk c) kk ((rs.take kk).map sl3)) := by
        have := ownsRow_take HOw.out hkn
        rwa [← List.map_take] at this
      by_cases hz : kk < n
      · have hz1 : ¬ (n - kk = 0) := by omega
        have hl6 := World.ownsRow_lit (e := 22) (size := 1) (base := wr.heap.size) wr #[] 0 (Nat.le_refl _) (Nat.zero_le _) rfl
        have hc6 : ∀ (j : Nat) u, ((rs.drop kk).map sl3)[j]? = some u → (wr.alloc (.cells #[] 22)).cell? (A.add j) = some u := fun j u hj => by
          have h1 := HAc.out j u hj
          have h2 : (A.add j).block < wr.heap.size := by rw [h1.2]; exact hgs
          rw [World.cell?_alloc_lt _ _ _ h2]; exact h1.1
        have hlm : ((rs.drop kk).map sl3).length = n - kk := by rw [List.length_map, hlk]
        obtain rfl : A = ⟨g, kk, none⟩ := by rw [if_neg (by omega)] at hA; exact (Option.some.inj hA).symm
        clear hA
        go_wp2_with (at_builtin; refine wpList_append_loc rfl _ _ rfl wr.heap.size wr.heap.size 0 0 [] rfl hl6 ⟨g, kk, none⟩ (n - kk) (c - kk) ((rs.drop kk).map sl3) rfl hlm hc6 (rows_oneCell _) (by omega) (by simp) ?_)
        intro g6 c6 w6 r6 _ hg6
        have hb6 : Below wr.heap.size wr w6 := grownBy_below (grownBy_alloc_trans hg6) (Nat.le_refl _) (fun k hk => by cases hk; exact Nat.le_refl _)
        have hg6lo : wr.heap.size ≤ g6 ∧ g6 < w6.heap.size := r6.lt g6 rfl
        have HR6 : Hid (w6.ownsRow wr.heap.size 22 1 (.slice (some ⟨g6, 0, none⟩) (n - kk) c6) (n - kk) ((rs.drop kk).map sl3)) := by
          show World.ownsRow _ _ _ _ _ _ _
          simpa [List.map_drop] using r6
        have hz6 := hb6.size
        have HP6 := Lib.hid (HPr.out.below hb6)
        have HT6 := Lib.hid (own_below HTk.out hb6 (fun k hk => by cases hk; exact hgs))
        have hl7 : OwnI ((w6.alloc (.cells #[] 3)).drew) w6.heap.size (some ⟨w6.heap.size, 0, none⟩) 0 0 [] := OwnI.lit0 w6
        have hba : Below w6.heap.size w6 ((w6.alloc (.cells #[] 3)).drew) := (below_alloc w6 _).drew
        have hkc3 : (kk : Int) ≤ (c : Int) := by omega
        have hkc4 : (0 : Int) ≤ (kk : Int) := by omega
        have hm4 : m < 4194304 := by have := HP6.out.2.2.1; omega
        have HZn := Lib.hid (show n - kk + (0 : Nat) = n - kk from rfl)
        clear r6 HAc HPr HTk hl6 hc6
        try clear hk0 g1
        go_wp2_with fail
        go_region_law ((first
          | (refine step_append_any rfl _ _ rfl w6.heap.size _ _ _ _ rfl hl7 _ _ _ _ rfl (HP6.out.below hba) (by omega) hba.size ?_; intro a7 c7 w7 ho7 hb7; have ho7' : OwnI w7 w6.heap.size a7 m c7 p := (by simpa using ho7); have hw7 : Below w6.heap.size w6 w7 := hba.trans hb7; have hz7 := hw7.size; have HT7 := own_below HT6.out hw7 (fun k hk => by cases hk; exact Nat.lt_of_lt_of_le hgs hz6); have HR7 := own_below HR6.out hw7 (fun k hk => by cases hk; exact hg6lo.2); have hn7 := below_alloc w7 (.cells #[.slice a7 m c7] 22); have ho7a := ho7'.below hn7; have hown8 := own_below' HT7 hn7; have hc8 : ∀ (j : Nat) u, [Value.slice a7 m c7][j]? = some u → (w7.alloc (.cells #[.slice a7 m c7] 22)).cell? ((⟨w7.heap.size, 0, none⟩ : Addr).add j) = some u := (by intro j u hj; match j, hj with | 0, hj => (simp at hj; subst hj; simp [Addr.add])); have ho81 : ∀ u ∈ [Value.slice a7 m c7], u.oneCell' = true := (by intro u hu; simp at hu; subst hu; rfl); have hB8 : lo ≤ (w7.alloc (.cells #[.slice a7 m c7] 22)).heap.size := (by simp; omega))
          | (refine step_append_loc rfl _ _ rfl lo g kk c _ rfl hown8 ⟨w7.heap.size, 0, none⟩ 1 1 [.slice a7 m c7] rfl rfl hc8 ho81 (by omega) hB8 ?_; intro g8 c8 w8 r8 hg8 hgr8; have hz8 := hgr8.size; have HR8 : w8.ownsRow wr.heap.size 22 1 (.slice (some ⟨g6, 0, none⟩) (n - kk) c6) (n - kk) ((rs.drop kk).map sl3) := (own_below' HR7 hn7).kept hgr8 (.inr (by simp [Value.ownBlock]; omega)); have ho8 : OwnI w8 w6.heap.size a7 m c7 p := ho7a.grown hgr8 (own_types_ne ho7a.2 (own_below' HT7 hn7) (by decide)))
          | (refine step_append_loc rfl _ _ rfl lo g8 (kk + 1) c8 _ rfl r8 ⟨g6, 0, none⟩ (n - kk) c6 ((rs.drop kk).map sl3) rfl hlm (fun j u hj => (by have h1 := (List.getElem?_eq_some_iff.1 hj).1; rw [List.length_map, hlk] at h1; rw [Addr.add_lit, Nat.zero_add, HR8.cellAt j (by omega)]; exact hj)) (rows_oneCell _) (by omega) (by simp at hz8; omega) ?_; intro g9 c9 w9 r9 hg9 hgr9; have ho9 : OwnI w9 w6.heap.size a7 m c7 p := ho8.grown hgr9 (own_types_ne ho8.2 r8 (by decide)))))
        all_goals
          obtain ⟨hbg, hfr⟩ : w.grownBy w9 (some g) ∧ (g9 = g ∨ w.heap.size ≤ g9) := by
            have q1 : w.grownBy w6 (some g) := grownBy_trans (Below.toGrown (hq.below _) _) (Below.toGrown hb6 _)
            have q2 : w6.grownBy (w7.alloc (.cells #[.slice a7 m c7] 22)) (some g) := Below.toGrown (hw7.trans (hn7.mono hz7)) _
            have q3 := grownBy_trans (grownBy_trans q1 q2) hgr8
            refine ⟨⟨hgr9.os.trans q3.os, hgr9.tape.trans q3.tape, hgr9.output.trans q3.output, Nat.le_trans q3.size hgr9.size, fun k hk hne => ?_⟩, ?_⟩
            · refine (hgr9.block k (Nat.lt_of_lt_of_le hk q3.size) ?_).trans (q3.block k hk hne)
              intro e
              rcases hg8 with rfl | hg8
              · exact hne e
              · cases e
                have := q1.size; simp at hg8; omega
            · rcases hg9 with h9 | h9
              · rcases hg8 with h8 | h8
                · exact .inl (h9.trans h8)
                · exact .inr (by have := q1.size; simp at h8; omega)
              · exact .inr (by have := q3.size; omega)
          have hfin : OwnIIr w9 lo w9.heap.size (some ⟨g9, 0, none⟩) (n + 1) c9 (rs.take kk ++ (a7, m, c7) :: rs.drop kk) (xss.take kk ++ p :: xss.drop kk) :=
            putRows HO.out hbg hkn (a7 := a7) (m := m) (c7 := c7) (t := w6.heap.size) (Nat.le_trans hhi (by have := hq.below 0; have := this.size; omega)) (Nat.le_trans hlow (by have := hq.below 0; have := this.size; omega)) ho9 (by
              have := r9
              rw [show kk + 1 + (n - kk) = n + 1 by omega] at this
              simpa [sl3] using this)
          have HF := Lib.hid hfin
          have HG := Lib.hid hbg
          have hr9 := r9.lt g9 rfl
          have hlen : kk + 1 + (n - kk) = n + 1 := by omega
          have HFR := Lib.hid hfr
          clear hfin hbg hfr
          go_wp2
          go_ret
          exact ⟨g9, n + 1, c9, by first | (rw [hlen]; rfl) | (rw [show kk + 1 = n + 1 by omega]; rfl), ⟨_, by rw [HPut.out]; exact HF.out⟩, HG.out, HFR.out⟩
      · have hkn2 : n ≤ kk := by omega
        have hz1 : n - kk = 0 := by omega
        have hdr : (rs.drop kk).map sl3 = [] := by apply List.eq_nil_of_length_eq_zero; rw [List.length_map, hlk]; omega
        have hlm : ((rs.drop kk).map sl3).length = 0 := by rw [hdr]; rfl
        have hl6 := World.ownsRow_lit (e := 22) (size := 1) (base := wr.heap.size) wr #[] 0 (Nat.le_refl _) (Nat.zero_le _) rfl
        have hb6' := below_alloc wr (.cells #[] 22)
        have hs6 : wr.heap.size < (wr.alloc (.cells #[] 22)).heap.size := by simp
        clear HAc
        go_wp2_with fail
        generalize hww : wr.alloc (.cells #[] 22) = w6 at hl6 hb6' hs6 ⊢
        obtain ⟨g6, hgg⟩ : ∃ g6, g6 = wr.heap.size := ⟨_, rfl⟩
        rw [← hgg] at hl6 hs6 ⊢
        clear hww
        obtain ⟨c6, hcc⟩ : ∃ c6 : Nat, c6 = 0 := ⟨0, rfl⟩
        have hb6 : Below wr.heap.size wr w6 := hb6'
        have hg6lo : wr.heap.size ≤ g6 ∧ g6 < w6.heap.size := ⟨by rw [hgg]; exact Nat.le_refl _, hs6⟩
        have HR6 : Hid (w6.ownsRow wr.heap.size 22 1 (.slice (some ⟨g6, 0, none⟩) 0 0) 0 ((rs.drop kk).map sl3)) := by
          show World.ownsRow _ _ _ _ _ _ _
          rw [hdr, ← hgg]; exact hl6
        clear hcc hgg hl6 hb6'
        have hz6 := hb6.size
        have HP6 := Lib.hid (HPr.out.below hb6)
        have HT6 := Lib.hid (own_below HTk.out hb6 (fun k hk => by cases hk; exact hgs))
        have hl7 : OwnI ((w6.alloc (.cells #[] 3)).drew) w6.heap.size (some ⟨w6.heap.size, 0, none⟩) 0 0 [] := OwnI.lit0 w6
        have hba : Below w6.heap.size w6 ((w6.alloc (.cells #[] 3)).drew) := (below_alloc w6 _).drew
        have hkc3 : (kk : Int) ≤ (c : Int) := by omega
        have hkc4 : (0 : Int) ≤ (kk : Int) := by omega
        have hm4 : m < 4194304 := by have := HP6.out.2.2.1; omega
        clear HPr HTk
        try clear hk0 g1
        go_region_law ((first
          | (refine step_append_any rfl _ _ rfl w6.heap.size _ _ _ _ rfl hl7 _ _ _ _ rfl (HP6.out.below hba) (by omega) hba.size ?_; intro a7 c7 w7 ho7 hb7; have ho7' : OwnI w7 w6.heap.size a7 m c7 p := (by simpa using ho7); have hw7 : Below w6.heap.size w6 w7 := hba.trans hb7; have hz7 := hw7.size; have HT7 := own_below HT6.out hw7 (fun k hk => by cases hk; exact Nat.lt_of_lt_of_le hgs hz6); have HR7 := own_below HR6.out hw7 (fun k hk => by cases hk; exact hg6lo.2); have hn7 := below_alloc w7 (.cells #[.slice a7 m c7] 22); have ho7a := ho7'.below hn7; have hown8 := own_below' HT7 hn7; have hc8 : ∀ (j : Nat) u, [Value.slice a7 m c7][j]? = some u → (w7.alloc (.cells #[.slice a7 m c7] 22)).cell? ((⟨w7.heap.size, 0, none⟩ : Addr).add j) = some u := (by intro j u hj; match j, hj with | 0, hj => (simp at hj; subst hj; simp [Addr.add])); have ho81 : ∀ u ∈ [Value.slice a7 m c7], u.oneCell' = true := (by intro u hu; simp at hu; subst hu; rfl); have hB8 : lo ≤ (w7.alloc (.cells #[.slice a7 m c7] 22)).heap.size := (by simp; omega))
          | (refine step_append_loc rfl _ _ rfl lo g kk c _ rfl hown8 ⟨w7.heap.size, 0, none⟩ 1 1 [.slice a7 m c7] rfl rfl hc8 ho81 (by omega) hB8 ?_; intro g8 c8 w8 r8 hg8 hgr8; have hz8 := hgr8.size; have HR8 : w8.ownsRow wr.heap.size 22 1 (.slice (some ⟨g6, 0, none⟩) 0 0) 0 ((rs.drop kk).map sl3) := (own_below' HR7 hn7).kept hgr8 (.inr (by simp [Value.ownBlock]; omega)); have ho8 : OwnI w8 w6.heap.size a7 m c7 p := ho7a.grown hgr8 (own_types_ne ho7a.2 (own_below' HT7 hn7) (by decide)))
          | (refine step_append_loc rfl _ _ rfl lo g8 (kk + 1) c8 _ rfl r8 ⟨g6, 0, none⟩ 0 0 ((rs.drop kk).map sl3) rfl hlm (fun j u hj => (by have h1 := (List.getElem?_eq_some_iff.1 hj).1; rw [List.length_map, hlk] at h1; rw [Addr.add_lit, Nat.zero_add, HR8.cellAt j (by omega)]; exact hj)) (rows_oneCell _) (by omega) (by simp at hz8; omega) ?_; intro g9 c9 w9 r9 hg9 hgr9; have ho9 : OwnI w9 w6.heap.size a7 m c7 p := ho8.grown hgr9 (own_types_ne ho8.2 r8 (by decide)))))
        all_goals
          obtain ⟨hbg, hfr⟩ : w.grownBy w9 (some g) ∧ (g9 = g ∨ w.heap.size ≤ g9) := by
            have q1 : w.grownBy w6 (some g) := grownBy_trans (Below.toGrown (hq.below _) _) (Below.toGrown hb6 _)
            have q2 : w6.grownBy (w7.alloc (.cells #[.slice a7 m c7] 22)) (some g) := Below.toGrown (hw7.trans (hn7.mono hz7)) _
            have q3 := grownBy_trans (grownBy_trans q1 q2) hgr8
            refine ⟨⟨hgr9.os.trans q3.os, hgr9.tape.trans q3.tape, hgr9.output.trans q3.output, Nat.le_trans q3.size hgr9.size, fun k hk hne => ?_⟩, ?_⟩
            · refine (hgr9.block k (Nat.lt_of_lt_of_le hk q3.size) ?_).trans (q3.block k hk hne)
              intro e
              rcases hg8 with rfl | hg8
              · exact hne e
              · cases e
                have := q1.size; simp at hg8; omega
            · rcases hg9 with h9 | h9
              · rcases hg8 with h8 | h8
                · exact .inl (h9.trans h8)
                · exact .inr (by have := q1.size; simp at h8; omega)
              · exact .inr (by have := q3.size; omega)
          have hfin : OwnIIr w9 lo w9.heap.size (some ⟨g9, 0, none⟩) (n + 1) c9 (rs.take kk ++ (a7, m, c7) :: rs.drop kk) (xss.take kk ++ p :: xss.drop kk) :=
            putRows HO.out hbg hkn (a7 := a7) (m := m) (c7 := c7) (t := w6.heap.size) (Nat.le_trans hhi (by have := hq.below 0; have := this.size; omega)) (Nat.le_trans hlow (by have := hq.below 0; have := this.size; omega)) ho9 (by
              have := r9
              rw [show kk + 1 + 0 = n + 1 by omega] at this
              simpa [sl3] using this)
          have HF := Lib.hid hfin
          have HG := Lib.hid hbg
          have hr9 := r9.lt g9 rfl
          have hlen : kk + 1 + 0 = n + 1 := by omega
          have HFR := Lib.hid hfr
          clear hfin hbg hfr
          go_wp2
          go_ret
          exact ⟨g9, n + 1, c9, by first | (rw [hlen]; rfl) | (rw [show kk + 1 = n + 1 by omega]; rfl), ⟨_, by rw [HPut.out]; exact HF.out⟩, HG.out, HFR.out⟩
    · obtain ⟨z, rfl⟩ : ∃ z, k = z + 1 := ⟨k - 1, by omega⟩
      have hgw : w.grownBy wr (some g) := Below.toGrown (hq.below _) _
      have hjn : z < n := by omega
      obtain ⟨r, hr⟩ : ∃ r, r = rs.getD z (none, 0, 0) := ⟨_, rfl⟩
      have hs := rowLater HO.out hgw hl.out hjn
      have hc0 : wr.cell? ⟨g, z, none⟩ = some (sl3 r) := by
        rw [HOw.out.cellAt z (by omega), List.getElem?_map, hr]; simp [List.getD, show z < rs.length by rw [HN.out.1]; omega]
      rw [← hr] at hs
      obtain ⟨ra, rn, rc⟩ := r
      simp only [sl3] at hc0 hs
      have hX : xss[z]? = some (xss.getD z []) := by simp [List.getD, show z < xss.length by rw [HN.out.2]; omega]
      have hK := putAt_succ (p := p) hX
      have hB := l2Before_any b ra m rn d rc p (xss.getD z []) wr (HP.out.quiet hq) hs
      have HS := Lib.hid hs
      have g2 : (0 : Int) < (z : Int) + 1 := by omega
      by_cases hbf : cmpP p (xss.getD z []) < 0
      · rw [if_pos hbf, ← HK.out] at hK
        rw [decide_eq_true hbf] at hB
        have HK' := Lib.hid hK
        clear hbf hK hX hr hs
        go_wp2_with fail
        refine hB.mono ?_
        rintro e w1 ⟨rfl, hq1⟩
        clear hB
        go_wp2
        go_roundw
        case rel => exact ⟨z, by omega, rfl, HK', hq.trans hq1⟩
        case measure => simp [intOf]
      · rw [if_neg hbf] at hK
        rw [decide_eq_false hbf] at hB
        have HAt2 : Hid (putAt xss p xss.length = z + 1) := by show _ = _; rw [HAt.out, HK.out, hK]
        have hE := fun q => l2Same_any ra b rn m rc d (xss.getD z []) p (wr.drewN q) (HS.out.1.drewN q) ((HP.out.quiet hq).1.drewN q) HS.out.2.1 HP.out.2.1 HS.out.2.2.1 HP.out.2.2.1
        by_cases hdup : xss.getD z [] = p
        · simp only [decide_eq_true hdup] at hE
          have HPut : Hid (putL xss p = xss) := by
            show _ = _; unfold putL; rw [HAt2.out, if_pos ⟨by omega, by simpa using hdup⟩]
          have HE := Lib.hid hE
          clear hbf hK hX hr hs hdup hE
          go_wp2_with fail
          refine hB.mono ?_
          rintro e w1 ⟨rfl, q, rfl⟩
          clear hB
          go_wp2_with fail
          refine (HE.out q).mono ?_
          rintro e w2 ⟨rfl, hq2⟩
          have hq3 : Quiet w w2 := (hq.drewN q).trans hq2
          have HF : Hid (OwnII w2 lo w2.heap.size (some ⟨g, 0, none⟩) n c xss) := ((show OwnII w lo hi _ n c xss from ⟨rs, HO.out⟩).quiet hq3).mono (Nat.le_refl _) (Nat.le_trans hhi (hq3.below 0).size)
          have HG : Hid (w.grownBy w2 (some g)) := Below.toGrown (hq3.below _) _
          go_wp2
          go_ret
          exact ⟨_, _, _, rfl, by rw [HPut.out]; exact HF.out, HG.out, .inl rfl⟩
        · simp only [decide_eq_false hdup] at hE
          have HPut : Hid (putL xss p = xss.take (z + 1) ++ p :: xss.drop (z + 1)) := by
            show _ = _; unfold putL; rw [HAt2.out, if_neg (by rintro ⟨_, h1⟩; exact hdup (by simpa using h1))]
          have HE := Lib.hid hE
          clear hbf hK hX hr hs hdup hE
          go_wp2_with fail
          refine hB.mono ?_
          rintro e w1 ⟨rfl, q, rfl⟩
          clear hB
          go_wp2_with fail
          refine (HE.out q).mono ?_
          rintro e w2 ⟨rfl, hq2⟩
          have hqr : Quiet w w2 := (hq.drewN q).trans hq2
          clear HE hc0 HS hgw HOw hq hq2
          obtain ⟨wo, rfl⟩ : ∃ wo : World, wo = w2 := ⟨_, rfl⟩
          have hq := hqr
          have HOw : Hid (wo.ownsRow lo 22 1 (.slice (some ⟨g, 0, none⟩) n c) n (rs.map sl3)) := by obtain ⟨q, rfl⟩ := hq; exact own_drewN HOw0.out q
          have hkn : (z + 1) ≤ n := by omega
          have hlk : (rs.drop (z + 1)).length = n - (z + 1) := by rw [List.length_drop, HN.out.1]
          obtain ⟨A, hA, HAc⟩ : ∃ A : Addr, (if c = (z + 1) then some (⟨g, 0, none⟩ : Addr) else some ⟨g, (z + 1), none⟩) = some A ∧ Hid (∀ (j : Nat) u, ((rs.drop (z + 1)).map sl3)[j]? = some u → wo.cell? (A.add j) = some u ∧ (A.add j).block = g) := by
            have hown := HOw.out
            by_cases hck : c = (z + 1)
            · refine ⟨⟨g, 0, none⟩, by rw [if_pos hck], fun j u hj => ?_⟩
              have h1 := (List.getElem?_eq_some_iff.1 hj).1
              rw [List.length_map, hlk] at h1
              omega
            · refine ⟨⟨g, (z + 1), none⟩, by rw [if_neg hck], fun j u hj => ?_⟩
              have h1 := (List.getElem?_eq_some_iff.1 hj).1
              rw [List.length_map, hlk] at h1
              rw [List.getElem?_map, List.getElem?_drop, ← List.getElem?_map] at hj
              exact ⟨by rw [Addr.add_lit, hown.cellAt ((z + 1) + j) (by omega)]; exact hj, by rw [Addr.add_lit]⟩
          have hgs : g < wo.heap.size := (HOw.out.lt g rfl).2
          have hkc : (z + 1) ≤ c := by omega
          have hlow' : lo ≤ wo.heap.size := by have := (hq.below 0).size; omega
          have HPr : Hid (SlI wo b m d p) := HP.out.quiet hq
          have HTk : Hid (wo.ownsRow lo 22 1 (.slice (some ⟨g, 0, none⟩) (z + 1) c) (z + 1) ((rs.take (z + 1)).map sl3)) := by
            have := ownsRow_take HOw.out hkn
            rwa [← List.map_take] at this
          by_cases hz : (z + 1) < n
          · have hz1 : ¬ (n - (z + 1) = 0) := by omega
            have hl6 := World.ownsRow_lit (e := 22) (size := 1) (base := wo.heap.size) wo #[] 0 (Nat.le_refl _) (Nat.zero_le _) rfl
            have hc6 : ∀ (j : Nat) u, ((rs.drop (z + 1)).map sl3)[j]? = some u → (wo.alloc (.cells #[] 22)).cell? (A.add j) = some u := fun j u hj => by
              have h1 := HAc.out j u hj
              have h2 : (A.add j).block < wo.heap.size := by rw [h1.2]; exact hgs
              rw [World.cell?_alloc_lt _ _ _ h2]; exact h1.1
            have hlm : ((rs.drop (z + 1)).map sl3).length = n - (z + 1) := by rw [List.length_map, hlk]
            obtain rfl : A = ⟨g, (z + 1), none⟩ := by rw [if_neg (by omega)] at hA; exact (Option.some.inj hA).symm
            clear hA
            go_wp2_with (at_builtin; refine wpList_append_loc rfl _ _ rfl wo.heap.size wo.heap.size 0 0 [] rfl hl6 ⟨g, (z + 1), none⟩ (n - (z + 1)) (c - (z + 1)) ((rs.drop (z + 1)).map sl3) rfl hlm hc6 (rows_oneCell _) (by omega) (by simp) ?_)
            intro g6 c6 w6 r6 _ hg6
            have hb6 : Below wo.heap.size wo w6 := grownBy_below (grownBy_alloc_trans hg6) (Nat.le_refl _) (fun k hk => by cases hk; exact Nat.le_refl _)
            have hg6lo : wo.heap.size ≤ g6 ∧ g6 < w6.heap.size := r6.lt g6 rfl
            have HR6 : Hid (w6.ownsRow wo.heap.size 22 1 (.slice (some ⟨g6, 0, none⟩) (n - (z + 1)) c6) (n - (z + 1)) ((rs.drop (z + 1)).map sl3)) := by
              show World.ownsRow _ _ _ _ _ _ _
              simpa [List.map_drop] using r6
            have hz6 := hb6.size
            have HP6 := Lib.hid (HPr.out.below hb6)
            have HT6 := Lib.hid (own_below HTk.out hb6 (fun k hk => by cases hk; exact hgs))
            have hl7 : OwnI ((w6.alloc (.cells #[] 3)).drew) w6.heap.size (some ⟨w6.heap.size, 0, none⟩) 0 0 [] := OwnI.lit0 w6
            have hba : Below w6.heap.size w6 ((w6.alloc (.cells #[] 3)).drew) := (below_alloc w6 _).drew
            have hkc3 : ((z : Int) + 1) ≤ (c : Int) := by omega
            have hkc4 : (0 : Int) ≤ ((z : Int) + 1) := by omega
            have hm4 : m < 4194304 := by have := HP6.out.2.2.1; omega
            have HZn := Lib.hid (show n - (z + 1) + (0 : Nat) = n - (z + 1) from rfl)
            clear r6 HAc HPr HTk hl6 hc6
            try clear hk0 g1
            go_wp2_with fail
            go_region_law ((first
              | (refine step_append_any rfl _ _ rfl w6.heap.size _ _ _ _ rfl hl7 _ _ _ _ rfl (HP6.out.below hba) (by omega) hba.size ?_; intro a7 c7 w7 ho7 hb7; have ho7' : OwnI w7 w6.heap.size a7 m c7 p := (by simpa using ho7); have hw7 : Below w6.heap.size w6 w7 := hba.trans hb7; have hz7 := hw7.size; have HT7 := own_below HT6.out hw7 (fun k hk => by cases hk; exact Nat.lt_of_lt_of_le hgs hz6); have HR7 := own_below HR6.out hw7 (fun k hk => by cases hk; exact hg6lo.2); have hn7 := below_alloc w7 (.cells #[.slice a7 m c7] 22); have ho7a := ho7'.below hn7; have hown8 := own_below' HT7 hn7; have hc8 : ∀ (j : Nat) u, [Value.slice a7 m c7][j]? = some u → (w7.alloc (.cells #[.slice a7 m c7] 22)).cell? ((⟨w7.heap.size, 0, none⟩ : Addr).add j) = some u := (by intro j u hj; match j, hj with | 0, hj => (simp at hj; subst hj; simp [Addr.add])); have ho81 : ∀ u ∈ [Value.slice a7 m c7], u.oneCell' = true := (by intro u hu; simp at hu; subst hu; rfl); have hB8 : lo ≤ (w7.alloc (.cells #[.slice a7 m c7] 22)).heap.size := (by simp; omega))
              | (refine step_append_loc rfl _ _ rfl lo g (z + 1) c _ rfl hown8 ⟨w7.heap.size, 0, none⟩ 1 1 [.slice a7 m c7] rfl rfl hc8 ho81 (by omega) hB8 ?_; intro g8 c8 w8 r8 hg8 hgr8; have hz8 := hgr8.size; have HR8 : w8.ownsRow wo.heap.size 22 1 (.slice (some ⟨g6, 0, none⟩) (n - (z + 1)) c6) (n - (z + 1)) ((rs.drop (z + 1)).map sl3) := (own_below' HR7 hn7).kept hgr8 (.inr (by simp [Value.ownBlock]; omega)); have ho8 : OwnI w8 w6.heap.size a7 m c7 p := ho7a.grown hgr8 (own_types_ne ho7a.2 (own_below' HT7 hn7) (by decide)))
              | (refine step_append_loc rfl _ _ rfl lo g8 (z + 1 + 1) c8 _ rfl r8 ⟨g6, 0, none⟩ (n - (z + 1)) c6 ((rs.drop (z + 1)).map sl3) rfl hlm (fun j u hj => (by have h1 := (List.getElem?_eq_some_iff.1 hj).1; rw [List.length_map, hlk] at h1; rw [Addr.add_lit, Nat.zero_add, HR8.cellAt j (by omega)]; exact hj)) (rows_oneCell _) (by omega) (by simp at hz8; omega) ?_; intro g9 c9 w9 r9 hg9 hgr9; have ho9 : OwnI w9 w6.heap.size a7 m c7 p := ho8.grown hgr9 (own_types_ne ho8.2 r8 (by decide)))))
            all_goals
              obtain ⟨hbg, hfr⟩ : w.grownBy w9 (some g) ∧ (g9 = g ∨ w.heap.size ≤ g9) := by
                have q1 : w.grownBy w6 (some g) := grownBy_trans (Below.toGrown (hq.below _) _) (Below.toGrown hb6 _)
                have q2 : w6.grownBy (w7.alloc (.cells #[.slice a7 m c7] 22)) (some g) := Below.toGrown (hw7.trans (hn7.mono hz7)) _
                have q3 := grownBy_trans (grownBy_trans q1 q2) hgr8
                refine ⟨⟨hgr9.os.trans q3.os, hgr9.tape.trans q3.tape, hgr9.output.trans q3.output, Nat.le_trans q3.size hgr9.size, fun k hk hne => ?_⟩, ?_⟩
                · refine (hgr9.block k (Nat.lt_of_lt_of_le hk q3.size) ?_).trans (q3.block k hk hne)
                  intro e
                  rcases hg8 with rfl | hg8
                  · exact hne e
                  · cases e
                    have := q1.size; simp at hg8; omega
                · rcases hg9 with h9 | h9
                  · rcases hg8 with h8 | h8
                    · exact .inl (h9.trans h8)
                    · exact .inr (by have := q1.size; simp at h8; omega)
                  · exact .inr (by have := q3.size; omega)
              have hfin : OwnIIr w9 lo w9.heap.size (some ⟨g9, 0, none⟩) (n + 1) c9 (rs.take (z + 1) ++ (a7, m, c7) :: rs.drop (z + 1)) (xss.take (z + 1) ++ p :: xss.drop (z + 1)) :=
                putRows HO.out hbg hkn (a7 := a7) (m := m) (c7 := c7) (t := w6.heap.size) (Nat.le_trans hhi (by have := hq.below 0; have := this.size; omega)) (Nat.le_trans hlow (by have := hq.below 0; have := this.size; omega)) ho9 (by
                  have := r9
                  rw [show z + 1 + 1 + (n - (z + 1)) = n + 1 by omega] at this
                  simpa [sl3] using this)
              have HF := Lib.hid hfin
              have HG := Lib.hid hbg
              have hr9 := r9.lt g9 rfl
              have hlen : z + 1 + 1 + (n - (z + 1)) = n + 1 := by omega
              have HFR := Lib.hid hfr
              clear hfin hbg hfr
              go_wp2
              go_ret
              exact ⟨g9, n + 1, c9, by first | (rw [hlen]; rfl) | (rw [show z + 1 + 1 = n + 1 by omega]; rfl), ⟨_, by rw [HPut.out]; exact HF.out⟩, HG.out, HFR.out⟩
          · have hkn2 : n ≤ (z + 1) := by omega
            have hz1 : n - (z + 1) = 0 := by omega
            have hdr : (rs.drop (z + 1)).map sl3 = [] := by apply List.eq_nil_of_length_eq_zero; rw [List.length_map, hlk]; omega
            have hlm : ((rs.drop (z + 1)).map sl3).length = 0 := by rw [hdr]; rfl
            have hl6 := World.ownsRow_lit (e := 22) (size := 1) (base := wo.heap.size) wo #[] 0 (Nat.le_refl _) (Nat.zero_le _) rfl
            have hb6' := below_alloc wo (.cells #[] 22)
            have hs6 : wo.heap.size < (wo.alloc (.cells #[] 22)).heap.size := by simp
            clear HAc
            go_wp2_with fail
            generalize hww : wo.alloc (.cells #[] 22) = w6 at hl6 hb6' hs6 ⊢
            obtain ⟨g6, hgg⟩ : ∃ g6, g6 = wo.heap.size := ⟨_, rfl⟩
            rw [← hgg] at hl6 hs6 ⊢
            clear hww
            obtain ⟨c6, hcc⟩ : ∃ c6 : Nat, c6 = 0 := ⟨0, rfl⟩
            have hb6 : Below wo.heap.size wo w6 := hb6'
            have hg6lo : wo.heap.size ≤ g6 ∧ g6 < w6.heap.size := ⟨by rw [hgg]; exact Nat.le_refl _, hs6⟩
            have HR6 : Hid (w6.ownsRow wo.heap.size 22 1 (.slice (some ⟨g6, 0, none⟩) 0 0) 0 ((rs.drop (z + 1)).map sl3)) := by
              show World.ownsRow _ _ _ _ _ _ _
              rw [hdr, ← hgg]; exact hl6
            clear hcc hgg hl6 hb6'
            have hz6 := hb6.size
            have HP6 := Lib.hid (HPr.out.below hb6)
            have HT6 := Lib.hid (own_below HTk.out hb6 (fun k hk => by cases hk; exact hgs))
            have hl7 : OwnI ((w6.alloc (.cells #[] 3)).drew) w6.heap.size (some ⟨w6.heap.size, 0, none⟩) 0 0 [] := OwnI.lit0 w6
            have hba : Below w6.heap.size w6 ((w6.alloc (.cells #[] 3)).drew) := (below_alloc w6 _).drew
            have hkc3 : ((z : Int) + 1) ≤ (c : Int) := by omega
            have hkc4 : (0 : Int) ≤ ((z : Int) + 1) := by omega
            have hm4 : m < 4194304 := by have := HP6.out.2.2.1; omega
            clear HPr HTk
            try clear hk0 g1
            go_region_law ((first
              | (refine step_append_any rfl _ _ rfl w6.heap.size _ _ _ _ rfl hl7 _ _ _ _ rfl (HP6.out.below hba) (by omega) hba.size ?_; intro a7 c7 w7 ho7 hb7; have ho7' : OwnI w7 w6.heap.size a7 m c7 p := (by simpa using ho7); have hw7 : Below w6.heap.size w6 w7 := hba.trans hb7; have hz7 := hw7.size; have HT7 := own_below HT6.out hw7 (fun k hk => by cases hk; exact Nat.lt_of_lt_of_le hgs hz6); have HR7 := own_below HR6.out hw7 (fun k hk => by cases hk; exact hg6lo.2); have hn7 := below_alloc w7 (.cells #[.slice a7 m c7] 22); have ho7a := ho7'.below hn7; have hown8 := own_below' HT7 hn7; have hc8 : ∀ (j : Nat) u, [Value.slice a7 m c7][j]? = some u → (w7.alloc (.cells #[.slice a7 m c7] 22)).cell? ((⟨w7.heap.size, 0, none⟩ : Addr).add j) = some u := (by intro j u hj; match j, hj with | 0, hj => (simp at hj; subst hj; simp [Addr.add])); have ho81 : ∀ u ∈ [Value.slice a7 m c7], u.oneCell' = true := (by intro u hu; simp at hu; subst hu; rfl); have hB8 : lo ≤ (w7.alloc (.cells #[.slice a7 m c7] 22)).heap.size := (by simp; omega))
              | (refine step_append_loc rfl _ _ rfl lo g (z + 1) c _ rfl hown8 ⟨w7.heap.size, 0, none⟩ 1 1 [.slice a7 m c7] rfl rfl hc8 ho81 (by omega) hB8 ?_; intro g8 c8 w8 r8 hg8 hgr8; have hz8 := hgr8.size; have HR8 : w8.ownsRow wo.heap.size 22 1 (.slice (some ⟨g6, 0, none⟩) 0 0) 0 ((rs.drop (z + 1)).map sl3) := (own_below' HR7 hn7).kept hgr8 (.inr (by simp [Value.ownBlock]; omega)); have ho8 : OwnI w8 w6.heap.size a7 m c7 p := ho7a.grown hgr8 (own_types_ne ho7a.2 (own_below' HT7 hn7) (by decide)))
              | (refine step_append_loc rfl _ _ rfl lo g8 (z + 1 + 1) c8 _ rfl r8 ⟨g6, 0, none⟩ 0 0 ((rs.drop (z + 1)).map sl3) rfl hlm (fun j u hj => (by have h1 := (List.getElem?_eq_some_iff.1 hj).1; rw [List.length_map, hlk] at h1; rw [Addr.add_lit, Nat.zero_add, HR8.cellAt j (by omega)]; exact hj)) (rows_oneCell _) (by omega) (by simp at hz8; omega) ?_; intro g9 c9 w9 r9 hg9 hgr9; have ho9 : OwnI w9 w6.heap.size a7 m c7 p := ho8.grown hgr9 (own_types_ne ho8.2 r8 (by decide)))))
            all_goals
              obtain ⟨hbg, hfr⟩ : w.grownBy w9 (some g) ∧ (g9 = g ∨ w.heap.size ≤ g9) := by
                have q1 : w.grownBy w6 (some g) := grownBy_trans (Below.toGrown (hq.below _) _) (Below.toGrown hb6 _)
                have q2 : w6.grownBy (w7.alloc (.cells #[.slice a7 m c7] 22)) (some g) := Below.toGrown (hw7.trans (hn7.mono hz7)) _
                have q3 := grownBy_trans (grownBy_trans q1 q2) hgr8
                refine ⟨⟨hgr9.os.trans q3.os, hgr9.tape.trans q3.tape, hgr9.output.trans q3.output, Nat.le_trans q3.size hgr9.size, fun k hk hne => ?_⟩, ?_⟩
                · refine (hgr9.block k (Nat.lt_of_lt_of_le hk q3.size) ?_).trans (q3.block k hk hne)
                  intro e
                  rcases hg8 with rfl | hg8
                  · exact hne e
                  · cases e
                    have := q1.size; simp at hg8; omega
                · rcases hg9 with h9 | h9
                  · rcases hg8 with h8 | h8
                    · exact .inl (h9.trans h8)
                    · exact .inr (by have := q1.size; simp at h8; omega)
                  · exact .inr (by have := q3.size; omega)
              have hfin : OwnIIr w9 lo w9.heap.size (some ⟨g9, 0, none⟩) (n + 1) c9 (rs.take (z + 1) ++ (a7, m, c7) :: rs.drop (z + 1)) (xss.take (z + 1) ++ p :: xss.drop (z + 1)) :=
                putRows HO.out hbg hkn (a7 := a7) (m := m) (c7 := c7) (t := w6.heap.size) (Nat.le_trans hhi (by have := hq.below 0; have := this.size; omega)) (Nat.le_trans hlow (by have := hq.below 0; have := this.size; omega)) ho9 (by
                  have := r9
                  rw [show z + 1 + 1 + 0 = n + 1 by omega] at this
                  simpa [sl3] using this)
              have HF := Lib.hid hfin
              have HG := Lib.hid hbg
              have hr9 := r9.lt g9 rfl
              have hlen : z + 1 + 1 + 0 = n + 1 := by omega
              have HFR := Lib.hid hfr
              clear hfin hbg hfr
              go_wp2
              go_ret
              exact ⟨g9, n + 1, c9, by first | (rw [hlen]; rfl) | (rw [show z + 1 + 1 = n + 1 by omega]; rfl), ⟨_, by rw [HPut.out]; exact HF.out⟩, HG.out, HFR.out⟩
end Go.Proofs.Ytjhlianledgiiaa
