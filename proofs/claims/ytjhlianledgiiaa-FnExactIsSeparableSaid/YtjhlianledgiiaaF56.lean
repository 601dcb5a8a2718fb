/- The reference's roots, put into an ordered list. Conditions: a permutation of at most 8 numbers; the list is the call's own. -/
import Derived.Test.YtjhlianledgiiaaF55
namespace Go.Proofs.Ytjhlianledgiiaa
open Go.RowKit

theorem lenPut (l : List (List Int)) (p : List Int) : (putL l p).length ≤ l.length + 1 := by
  unfold putL
  split
  · omega
  · rw [List.length_append, List.length_cons, List.length_take, List.length_drop]; omega
theorem memPut {l : List (List Int)} {p x : List Int} (h : x ∈ putL l p) : x ∈ l ∨ x = p := by
  unfold putL at h
  split at h
  · exact .inl h
  · rcases List.mem_append.1 h with h1 | h1
    · exact .inl (List.mem_of_mem_take h1)
    · rcases List.mem_cons.1 h1 with h2 | h2
      · exact .inr h2
      · exact .inl (List.mem_of_mem_drop h2)
theorem lenPuts : ∀ (r l : List (List Int)), (r.foldl putL l).length ≤ l.length + r.length
  | [], l => by simp
  | p :: r, l => by
    have h1 := lenPuts r (putL l p)
    have h2 := lenPut l p
    rw [List.foldl_cons, List.length_cons]; omega
theorem rowsPuts : ∀ (r l : List (List Int)), (∀ x ∈ l, x.length ≤ 8) → (∀ x ∈ r, x.length ≤ 8) → ∀ x ∈ r.foldl putL l, x.length ≤ 8
  | [], _, h, _ => h
  | p :: r, l, h, h' => by
    rw [List.foldl_cons]
    refine rowsPuts r (putL l p) (fun x hx => ?_) (fun x hx => h' x (List.mem_cons_of_mem _ hx))
    rcases memPut hx with h1 | rfl
    · exact h x h1
    · exact h' _ (List.mem_cons_self ..)
/-- The growth of one row, or of fresh ones behind it. -/
theorem grownStep {w a b : World} {g g' : Nat} (h : w.grownBy a (some g)) (k : a.grownBy b (some g')) (hf : g' = g ∨ w.heap.size ≤ g') : w.grownBy b (some g) :=
  ⟨k.os.trans h.os, k.tape.trans h.tape, k.output.trans h.output, Nat.le_trans h.size k.size, fun i hi hr =>
    (k.block i (Nat.lt_of_lt_of_le hi h.size) (fun e => by
      cases e
      rcases hf with h1 | h1
      · exact hr (by rw [h1])
      · omega)).trans (h.block i hi hr)⟩

set_option maxHeartbeats 1000000 in
theorem l6Roots_any : ∀ (g : Nat), g ≤ 8 → ∀ (a : Option Addr) (n c : Nat) (xs : List Int) (g0 m c0 lo : Nat) (acc : List (List Int)) (w : World), SlI w a n c xs → Hid (Perm8 xs) → n ≤ g →
    Hid (OwnII w lo w.heap.size (some ⟨g0, 0, none⟩) m c0 acc) → lo ≤ w.heap.size → Hid (∀ x ∈ acc, x.length ≤ 8) → Hid (acc.length + (rtsF g xs).length ≤ 100000) →
    Calls Try.prog 120 #[.slice a n c, .slice (some ⟨g0, 0, none⟩) m c0] w fun e w' =>
      ∃ g' n' c', e = .returned (.slice (some ⟨g', 0, none⟩) n' c') ∧ OwnII w' lo w'.heap.size (some ⟨g', 0, none⟩) n' c' ((rtsF g xs).foldl putL acc) ∧ w.grownBy w' (some g0) ∧ (g' = g0 ∨ w.heap.size ≤ g') := by
  intro g
  induction g with
  | zero =>
    intro hg8 a n c xs g0 m c0 lo acc w h hp hn ho hlo h8 hbd
    obtain rfl : n = 0 := by omega
    have hfin : OwnII w lo w.heap.size (some ⟨g0, 0, none⟩) m c0 ((rtsF 0 xs).foldl putL acc) := ho.out
    have HF := Lib.hid hfin
    clear hfin ho
    go_enter Try.func120, Try.ntmps120
    go_wp2
    go_ret
    exact ⟨_, _, _, rfl, HF.out, ⟨rfl, rfl, rfl, Nat.le_refl _, fun _ _ _ => rfl⟩, .inl rfl⟩
  | succ g ih =>
    intro hg8 a n c xs g0 m c0 lo acc w h hp hn ho hlo h8 hbd
    have HN : Hid (xs.length = n) := h.2.1
    by_cases hn2 : n < 2
    · have hfin : OwnII w lo w.heap.size (some ⟨g0, 0, none⟩) m c0 ((rtsF (g + 1) xs).foldl putL acc) := by
        rw [rtsF_short (by rw [HN.out]; exact hn2)]; exact ho.out
      have HF := Lib.hid hfin
      clear hfin ho
      go_enter Try.func120, Try.ntmps120
      go_wp2
      go_ret
      exact ⟨_, _, _, rfl, HF.out, ⟨rfl, rfl, rfl, Nat.le_refl _, fun _ _ _ => rfl⟩, .inl rfl⟩
    · have hn2' : ¬ ((n : Int) < 2) := by omega
      have e := rtsF_long (g := g) (xs := xs) (by rw [HN.out]; omega)
      obtain ⟨E, hE⟩ : ∃ E, E = rtsF (g + 1) xs := ⟨_, rfl⟩
      rw [← hE] at hbd ⊢
      rw [e] at hE
      have HE := Lib.hid hE
      have HER : Hid (∀ x ∈ E, x.length ≤ 8) := by rw [hE, ← e]; exact rtsF_rows (g + 1) xs hp.out
      have IH := Lib.hid (ih (by omega))
      have hS := l6Split_any a n c xs w h hp (by omega)
      have hg0 : g0 < w.heap.size := by
        obtain ⟨rs, hrs⟩ := ho.out
        exact (hrs.2.2.1.lt g0 rfl).2
      clear ih hE e
      go_enter Try.func120, Try.ntmps120
      go_wp2_with fail
      refine hS.mono ?_
      rintro e w1 ⟨ra, rn, rc, pb, pm, pd, rfl, hof, hb⟩
      obtain ⟨hii, hpm8, hpm1, HQ⟩ := iis_parts hof.parts hp.out (by rw [HN.out]; omega)
      obtain ⟨ps, hps⟩ := hof.parts
      have hps0 : OwnIIr w1 w.heap.size w1.heap.size pb pm pd ps (splP xs) := hps
      have hRL := splR_len hp.out
      obtain ⟨L, hL⟩ : ∃ L, L = splP xs := ⟨_, rfl⟩
      obtain ⟨R, hR⟩ : ∃ R, R = splR xs := ⟨_, rfl⟩
      rw [← hL] at hps0 HQ
      rw [← hR] at hRL
      have hroot := hof.root
      rw [← hR] at hroot
      have HL0 := Lib.hid hL
      have HR0 := Lib.hid hR
      have HL : Hid (L.length = pm) := hps0.1
      have hba := below_alloc w1 (.cells #[.slice ra rn rc, .slice pb pm pd] 25)
      have hszb := hb.size
      have hgx : w.grownBy (w1.alloc (.cells #[.slice ra rn rc, .slice pb pm pd] 25)) (some g0) := grownBy_trans (Below.toGrown hb _) (Below.toGrown hba _)
      have hox : Hid (OwnII (w1.alloc (.cells #[.slice ra rn rc, .slice pb pm pd] 25)) lo (w1.alloc (.cells #[.slice ra rn rc, .slice pb pm pd] 25)).heap.size (some ⟨g0, 0, none⟩) m c0 acc) :=
        ((ho.out.below hb).below hba).mono (Nat.le_refl _) (by simp; omega)
      have hpx := hps0.below hba
      have hrx : SlI (w1.alloc (.cells #[.slice ra rn rc, .slice pb pm pd] 25)) ra rn rc R := (hroot.sl (by have := hroot.1.1; omega)).below hba
      have hcx : (w1.alloc (.cells #[.slice ra rn rc, .slice pb pm pd] 25)).cell? ⟨w1.heap.size, 1, none⟩ = some (.slice pb pm pd) := by simp
      have hcx0 : (w1.alloc (.cells #[.slice ra rn rc, .slice pb pm pd] 25)).cell? ⟨w1.heap.size, 0, none⟩ = some (.slice ra rn rc) := by simp
      have hszx : (w1.alloc (.cells #[.slice ra rn rc, .slice pb pm pd] 25)).heap.size = w1.heap.size + 1 := by simp
      clear hS hL hR hof hps hii hba ho hb hroot hps0
      go_wp2_with (fail)
      generalize w1.alloc (.cells #[.slice ra rn rc, .slice pb pm pd] 25) = wx at hgx hox hpx hrx hcx hcx0 hszx ⊢
      have hmb : m ≤ 100000 := by have h1 := hox.out.len; have h2 := hbd.out; omega
      have H8' : Hid (∀ x ∈ acc, x.length ≤ 2097152) := fun x hx => by have := h8.out x hx; omega
      obtain ⟨rs0, hrs0⟩ := hox.out
      have hP := l3Put_any g0 m c0 lo wx.heap.size rs0 acc ra rn rc R wx hrs0 (by omega) H8' hrx (Nat.le_refl _) (by omega)
      have HPX := Lib.hid hpx
      clear hrs0 hrx hpx
      refine hP.mono ?_
      rintro e w2 ⟨g2, n2, c2, rfl, ho2, hgr2, hf2⟩
      have hne0 : ¬ (w1.heap.size = g0) := by omega
      have hcx2 : w2.cell? ⟨w1.heap.size, 1, none⟩ = some (.slice pb pm pd) := (World.cell?_of_block (w := wx) (hgr2.block w1.heap.size (by omega) (by simpa using hne0))).trans hcx
      have HO2 := Lib.hid ho2
      have HG2 : Hid (wx.grownBy w2 (some g0)) := hgr2
      have hlt2 : w1.heap.size + 1 ≤ w2.heap.size := by have := hgr2.size; omega
      clear hP ho2 hgr2 hcx hcx0
      go_wp2
      go_loopw [1, 6] (fun ov kv wr => ∃ (k g9 q9 c9 : Nat), k ≤ pm ∧ ov = .slice (some ⟨g9, 0, none⟩) q9 c9 ∧ kv = .int .i64 k ∧ Hid (OwnII wr lo wr.heap.size (some ⟨g9, 0, none⟩) q9 c9 ((R :: (L.take k).flatMap (rtsF g)).foldl putL acc)) ∧ (g9 = g0 ∨ wx.heap.size ≤ g9) ∧ Hid (wx.grownBy wr (some g0)) ∧ wr.cell? ⟨w1.heap.size, 1, none⟩ = some (.slice pb pm pd) ∧ wx.heap.size ≤ wr.heap.size) (fun _ kv _ => pm - (intOf kv).toNat)
      case atStart => exact ⟨0, g2, n2, c2, Nat.zero_le _, rfl, by go_num, HO2.out, hf2, HG2, hcx2, HG2.out.size⟩
      case round =>
        obtain ⟨k, g9, q9, c9, hk, rfl, rfl, HO, hg9, HG, hcr, hszr⟩ := hrel
        by_cases hlt : k < pm
        · have hpr : OwnIIr wr w.heap.size w1.heap.size pb pm pd ps L := HPX.out.grownOut HG.out (fun j hj => by cases hj; exact .inl hg0)
          have hii : IIs wr pb pm pd L := (OwnIIr.toII hpr).iis (by omega) (fun q hq => by have := (HQ.out q hq).1.1; omega)
          obtain ⟨qb, qo, qa, qn, qc, q, rfl, hx, hq, HX⟩ := hii.at hlt
          have hqm : q ∈ L := List.mem_of_getElem? HX.out
          obtain ⟨HP, hq1, hq2⟩ := HQ.out q hqm
          have hql := hq.2.1
          have esucc := flat_succ (f := rtsF g) HX.out
          have HES : Hid ((R :: (L.take (k + 1)).flatMap (rtsF g)).foldl putL acc = (rtsF g q).foldl putL ((R :: (L.take k).flatMap (rtsF g)).foldl putL acc)) := by
            show _ = _; rw [esucc, ← List.foldl_append, List.cons_append]
          have hbdk : Hid (((R :: (L.take k).flatMap (rtsF g)).foldl putL acc).length + (rtsF g q).length ≤ 100000) := by
            have h1 := lenPuts (R :: (L.take k).flatMap (rtsF g)) acc
            have h2 := flatTk_le (f := rtsF g) L (k + 1)
            have h3 := hbd.out
            rw [HE.out, ← HL0.out, List.length_cons] at h3
            rw [esucc, List.length_append] at h2
            rw [List.length_cons] at h1
            show _ ≤ _; omega
          have h8k : Hid (∀ x ∈ (R :: (L.take k).flatMap (rtsF g)).foldl putL acc, x.length ≤ 8) := by
            refine rowsPuts _ _ h8.out (fun x hx => ?_)
            refine HER.out x ?_
            rw [HE.out, ← HL0.out, ← HR0.out]
            rcases List.mem_cons.1 hx with rfl | hx
            · exact List.mem_cons_self ..
            · refine List.mem_cons_of_mem _ ?_
              obtain ⟨z, hz, hz2⟩ := List.mem_flatMap.1 hx
              exact List.mem_flatMap.2 ⟨z, List.mem_of_mem_take hz, hz2⟩
          have hC := IH.out qa qn qc q g9 q9 c9 lo ((R :: (L.take k).flatMap (rtsF g)).foldl putL acc) wr hq HP (by have := HN.out; omega) HO (by omega) h8k hbdk
          clear esucc HP hq1 hq2 hql hq hqm hbdk h8k hii hpr HO
          go_wp2_with fail
          refine hC.mono ?_
          rintro e w3 ⟨g3, n3, c3, rfl, ho3, hgr3, hf3⟩
          have HG3 : Hid (wx.grownBy w3 (some g0)) := grownStep HG.out hgr3 hg9
          have hsz3 := hgr3.size
          have hne9 : ¬ (w1.heap.size = g9) := by omega
          have hcx3 : w3.cell? ⟨w1.heap.size, 1, none⟩ = some (.slice (some ⟨qb, qo, none⟩) pm pd) := (World.cell?_of_block (w := wr) (hgr3.block w1.heap.size (by omega) (by simpa using hne9))).trans hcr
          have HO3 := Lib.hid ho3
          have hg3 : g3 = g0 ∨ wx.heap.size ≤ g3 := by omega
          clear hC ho3 hgr3 hcr hx
          go_wp2
          go_roundw
          case rel => exact ⟨k + 1, g3, n3, c3, by omega, rfl, by go_num, by rw [HES.out]; exact HO3.out, hg3, HG3, hcx3, by omega⟩
          case measure => simp [intOf]; omega
        · obtain rfl : k = pm := by omega
          have hF := HO.out
          rw [List.take_of_length_le (by rw [HL.out]; exact Nat.le_refl _), HL0.out, HR0.out, ← HE.out] at hF
          have HF' := Lib.hid hF
          have HGF : Hid (w.grownBy wr (some g0)) := grownBy_trans hgx HG.out
          have hfr : g9 = g0 ∨ w.heap.size ≤ g9 := by omega
          clear hF HO
          go_wp2
          go_ret
          exact ⟨_, _, _, rfl, HF'.out, HGF.out, hfr⟩

/-- The roots, ordered. -/
def rooP (xs : List Int) : List (List Int) := if Perm8 xs then ordL (rtsF 8 xs) else []
theorem bound_rooP (xs : List Int) : totL (rooP xs) ≤ 2097152 ∧ (rooP xs).length ≤ 2097152 := by
  unfold rooP
  split
  · rename_i hp
    have h1 := lenPuts (rtsF 8 xs) []
    have h2 := rtsF_bound 8 hp
    have h3 : (ordL (rtsF 8 xs)).length ≤ 30000 := by unfold ordL; simp at h1; omega
    have h4 : totL (ordL (rtsF 8 xs)) ≤ (ordL (rtsF 8 xs)).length * 8 := totL_bound (fun r hr => rowsPuts _ [] (by simp) (rtsF_rows 8 xs hp) r hr)
    omega
  · simp [totL]

set_option maxHeartbeats 1000000 in
theorem spec_RootsIn (a : Option Addr) (n c : Nat) (xs : List Int) (w : World) (h : SlI w a n c xs) :
    Calls Try.prog 72 #[.slice a n c] w (RetII w (rooP xs)) := by
  have hI := spec_IsPerm a n c xs w h
  have HN : Hid (xs.length = n) := h.2.1
  by_cases hp : Perm8 xs
  · rw [decide_eq_true hp] at hI
    have HE : Hid (rooP xs = (rtsF 8 xs).foldl putL []) := if_pos hp
    have h8 : n ≤ 8 := by have h1 := hp.1; have h2 := HN.out; omega
    have HP : Hid (Perm8 xs) := hp
    obtain ⟨E, hE⟩ : ∃ E, E = rooP xs := ⟨_, rfl⟩
    rw [← hE] at HE ⊢
    clear hp hE
    go_enter Try.func72, Try.ntmps72
    go_wp2_with fail
    refine hI.mono ?_
    rintro e w1 ⟨rfl, hb1⟩
    have hL := l6Roots_any 8 (Nat.le_refl _) a n c xs w1.heap.size 0 0 w1.heap.size [] (w1.alloc (.cells #[] 22)) ((h.below hb1).below (below_alloc _ _)) HP h8 (OwnII.start w1) (by simp) (by simp [Hid]) (by show _ ≤ _; have := rtsF_bound 8 HP.out; simp; omega)
    clear hI
    go_wp2_with fail
    refine hL.mono ?_
    rintro e w2 ⟨g2, n2, c2, rfl, ho2, hg2, hf2⟩
    rw [← HE.out] at ho2
    have hbf : Below w1.heap.size (w1.alloc (.cells #[] 22)) w2 := grownBy_below hg2 (by simp) (fun k hk => by cases hk; exact Nat.le_refl _)
    have HO := Lib.hid ho2
    clear hL ho2
    go_wp2
    go_ret
    exact ⟨_, _, _, rfl, HO.out.mono hb1.size (Nat.le_refl _), hb1.trans (((below_alloc w1 _).trans hbf).mono hb1.size)⟩
  · rw [decide_eq_false hp] at hI
    have e : rooP xs = [] := if_neg hp
    rw [e]; clear e hp
    go_enter Try.func72, Try.ntmps72
    go_wp2_with fail
    refine hI.mono ?_
    rintro e w1 ⟨rfl, hb1⟩
    go_wp2
    go_ret
    exact ⟨_, _, _, rfl, (OwnII.start w1).mono hb1.size (Nat.le_refl _), hb1.alloc hb1.size _⟩
end Go.Proofs.Ytjhlianledgiiaa
