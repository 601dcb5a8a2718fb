/- The text of the tree of a permutation, of the program and of the reference. No condition. -/
import Derived.Test.YtmojniiimondfaaF55
import Derived.Test.YtmojniiimondfaaT04
namespace Go.Proofs.Ytmojniiimondfaa
open Go.RowKit

def spc : ByteArray := ⟨#[32]⟩
/-- The text of the tree, with fuel. -/
def treB : Nat → List Int → List UInt8
  | 0, _ => []
  | g + 1, xs => if xs.length = 1 then [49] else ptx (splR xs) ++ [40] ++ jnS spc ((splP xs).map fun q => ⟨(treB g q).toArray⟩) ++ [41]
/-- How long it may be. -/
def lB : Nat → Nat
  | 0 => 1
  | g + 1 => 18 + 8 * (lB g + 1)
theorem ptx_len {xs : List Int} (h : xs.length ≤ 8) : (ptx xs).length ≤ 8 := by
  unfold ptx
  split
  · split
    · simp
    · rw [length_ptL]; exact h
  · simp
theorem totS_le {ss : List ByteArray} {b : Nat} (h : ∀ s ∈ ss, s.size ≤ b) : totS ss ≤ ss.length * b := by
  induction ss with
  | nil => simp [totS]
  | cons r rs ih =>
    have h1 := h r (by simp)
    have h2 := ih (fun s hs => h s (by simp [hs]))
    simp only [totS, List.length_cons, Nat.add_mul, Nat.one_mul]; omega
theorem lB_pos : ∀ g, 1 ≤ lB g
  | 0 => Nat.le_refl _
  | g + 1 => by unfold lB; omega
theorem treB_len : ∀ (g : Nat) (xs : List Int), Perm8 xs → 1 ≤ xs.length → (treB g xs).length ≤ lB g
  | 0, _, _, _ => by simp [treB]
  | g + 1, xs, hp, h1 => by
    unfold treB lB
    split
    · simp; omega
    · rename_i hne
      obtain ⟨h3, h4, h5⟩ := splP_spec hp (by omega)
      have hl := splP_len2 (xs := xs) (by omega)
      have h8 := hp.1
      have hr := ptx_len (xs := splR xs) (splR_len hp)
      have ht : totS ((splP xs).map fun q => (⟨(treB g q).toArray⟩ : ByteArray)) ≤ 8 * lB g := by
        refine Nat.le_trans (totS_le (b := lB g) (fun s hs => ?_)) (Nat.mul_le_mul_right _ (by rw [List.length_map]; omega))
        obtain ⟨q, hq, rfl⟩ := List.mem_map.1 hs
        have := treB_len g q (h3 q hq).1 (h3 q hq).2.1
        show (treB g q).toArray.size ≤ _
        simpa using this
      have hj := jnS_len spc ((splP xs).map fun q => (⟨(treB g q).toArray⟩ : ByteArray))
      rw [List.length_map] at hj
      have hs1 : spc.size = 1 := rfl
      rw [hs1] at hj
      simp only [List.length_append, List.length_cons, List.length_nil]
      omega
theorem lB_le : ∀ g, g ≤ 8 → lB g ≤ 4000000000 := by decide
def treP (xs : List Int) : List UInt8 := if SpOk xs then treB 8 xs else []
theorem wrds_take {L : List (List Int)} {f : List Int → ByteArray} {k : Nat} {q : List Int} (h : L[k]? = some q) : (L.take (k + 1)).map f = (L.take k).map f ++ [f q] := by
  rw [take_snoc h, List.map_append]; rfl
theorem catS (a b : List UInt8) : (⟨a.toArray⟩ : ByteArray) ++ ⟨b.toArray⟩ = ⟨(a ++ b).toArray⟩ := by
  apply ByteArray.ext
  simp [ByteArray.data_append]
theorem szS (a : List UInt8) : (⟨a.toArray⟩ : ByteArray).size = a.length := by
  show a.toArray.size = _
  simp

set_option maxHeartbeats 1000000 in
theorem treeText_any : ∀ (g : Nat), g ≤ 8 → ∀ (a : Option Addr) (n c : Nat) (xs : List Int) (w : World), SlI w a n c xs → Hid (Perm8 xs) → 1 ≤ n → n ≤ g →
    Calls Try.prog 63 #[.slice a n c] w (RetV w (.string ⟨(treB g xs).toArray⟩)) := by
  intro g
  induction g with
  | zero => intros; omega
  | succ g ih =>
    intro hg8 a n c xs w h hp hn hg
    have HN : Hid (xs.length = n) := h.2.1
    by_cases hn1 : n = 1
    · have e : treB (g + 1) xs = [49] := by unfold treB; rw [if_pos (by rw [HN.out, hn1])]
      rw [e]; clear e
      subst hn1
      go_enter Try.func63, Try.ntmps63
      go_wp2
      go_ret
      exact ⟨rfl, Below.refl _ _⟩
    · have hn2 : 2 ≤ n := by omega
      have e : treB (g + 1) xs = ptx (splR xs) ++ [40] ++ jnS spc ((splP xs).map fun q => ⟨(treB g q).toArray⟩) ++ [41] := by rw [treB, if_neg (by rw [HN.out]; exact hn1)]
      have hlen := treB_len (g + 1) xs hp.out (by rw [HN.out]; exact hn)
      have hlb := lB_le (g + 1) hg8
      rw [e] at hlen
      simp only [List.length_append, List.length_cons, List.length_nil] at hlen
      have IH := Lib.hid (ih (by omega))
      have hS := split_any a n c xs w h hp hn
      have hn1' : ((n : Int) == 1) = false := by rw [beq_eq_false_iff_ne]; omega
      clear ih
      obtain ⟨E, hE⟩ : ∃ E, E = treB (g + 1) xs := ⟨_, rfl⟩
      rw [← hE]
      rw [e] at hE
      clear e
      go_enter Try.func63, Try.ntmps63
      go_wp2_with fail
      refine hS.mono ?_
      rintro e w1 ⟨ra, rn, rc, pb, pm, pd, rfl, ho, hb⟩
      obtain ⟨hii, hpm8, hpm1, HQ⟩ := iis_parts ho.parts hp.out (by rw [HN.out]; exact hn2)
      have hrl := splR_len hp.out
      have hroot := ho.root.sl (by have := ho.root.1.1; omega)
      obtain ⟨L, hL⟩ : ∃ L, L = splP xs := ⟨_, rfl⟩
      rw [← hL] at hii HQ hE hlen
      obtain ⟨R, hR⟩ : ∃ R, R = splR xs := ⟨_, rfl⟩
      rw [← hR] at hroot hE hlen
      have HE := Lib.hid hE
      have HL : Hid (L.length = pm) := hii.2.1
      have HLEN := Lib.hid hlen
      have hba := below_alloc w1 (.cells #[.slice ra rn rc, .slice pb pm pd] 58)
      clear hS hL hR ho hE hlen
      go_wp2
      have hbx : Below w.heap.size w ((w1.alloc (.cells #[.slice ra rn rc, .slice pb pm pd] 58)).alloc (.cells #[] 9)) := (hb.alloc hb.size _).alloc (by simp; have := hb.size; omega) _
      have hb1 : Below w1.heap.size w1 ((w1.alloc (.cells #[.slice ra rn rc, .slice pb pm pd] 58)).alloc (.cells #[] 9)) := hba.alloc (by simp) _
      have hcell : ((w1.alloc (.cells #[.slice ra rn rc, .slice pb pm pd] 58)).alloc (.cells #[] 9)).cell? ⟨w1.heap.size, 0, none⟩ = some (.slice ra rn rc) := by
        simp [World.cell?_alloc_past, World.cell?_alloc_at]
      have hszx : w1.heap.size + 1 + 1 = ((w1.alloc (.cells #[.slice ra rn rc, .slice pb pm pd] 58)).alloc (.cells #[] 9)).heap.size := by simp
      have ho0 : OwnS ((w1.alloc (.cells #[.slice ra rn rc, .slice pb pm pd] 58)).alloc (.cells #[] 9)) (w1.heap.size + 1) (some ⟨w1.heap.size + 1, 0, none⟩) 0 0 [] := by
        have := OwnS.lit0 (w1.alloc (.cells #[.slice ra rn rc, .slice pb pm pd] 58))
        simpa using this
      generalize (w1.alloc (.cells #[.slice ra rn rc, .slice pb pm pd] 58)).alloc (.cells #[] 9) = wx at hbx hb1 hcell hszx ho0 ⊢
      have hlt1 : w1.heap.size < w1.heap.size + 1 := Nat.lt_succ_self _
      clear hba
      go_loopw [4, 16] (fun ov kv wr => ∃ (k c3 : Nat) (a3 : Option Addr), k ≤ pm ∧ ov = .slice a3 k c3 ∧ kv = .int .i64 k ∧ Hid (OwnS wr (w1.heap.size + 1) a3 k c3 ((L.take k).map fun q => ⟨(treB g q).toArray⟩)) ∧ Below (w1.heap.size + 1) wx wr) (fun _ kv _ => pm - (intOf kv).toNat)
      case atStart => exact ⟨0, 0, _, Nat.zero_le _, rfl, by go_num, ho0, Below.refl _ _⟩
      case round =>
        obtain ⟨k, c3, a3, hk, rfl, rfl, HO, hbr⟩ := hrel
        have hszr : w1.heap.size + 1 + 1 ≤ wr.heap.size := by have := hbr.size; omega
        have hbw1 : Below w1.heap.size w1 wr := hb1.trans (hbr.mono (by omega))
        by_cases hlt : k < pm
        · obtain ⟨qb, qo, qa, qn, qc, q, rfl, hx, hq, HX⟩ := (hii.below hbw1).at hlt
          have hqm : q ∈ L := List.mem_of_getElem? HX.out
          obtain ⟨HP, hq1, hq2⟩ := HQ.out q hqm
          have hql := hq.2.1
          have hC := IH.out qa qn qc q wr hq HP (by omega) (by have := HN.out; omega)
          have HW : Hid ((L.take (k + 1)).map (fun q => (⟨(treB g q).toArray⟩ : ByteArray)) = (L.take k).map (fun q => (⟨(treB g q).toArray⟩ : ByteArray)) ++ [⟨(treB g q).toArray⟩]) := wrds_take HX.out
          generalize (⟨(treB g q).toArray⟩ : ByteArray) = T at hC HW
          clear HP hq1 hq2 hql hq hqm
          go_wp2_with fail
          refine hC.mono ?_
          rintro e w2 ⟨rfl, hb2⟩
          have HO2 := Lib.hid (HO.out.below hb2)
          have hsz2 : w1.heap.size + 1 ≤ w2.heap.size := by have := hb2.size; omega
          have hbr2 : Below (w1.heap.size + 1) wx w2 := hbr.trans (hb2.mono (by omega))
          clear hC hb2 hbr hx
          go_wp2_with (at_builtin; refine wpList_appS rfl _ _ rfl (w1.heap.size + 1) _ _ _ _ rfl HO2.out _ rfl (by omega) hsz2 ?_)
          intro a4 c4 w4 ho4 hb4
          have HO4 : Hid (OwnS w4 (w1.heap.size + 1) a4 (k + 1) c4 ((L.take (k + 1)).map (fun q => (⟨(treB g q).toArray⟩ : ByteArray)))) := by rw [HW.out, List.map_take]; exact ho4
          have hbn := hbr2.trans hb4
          clear ho4 hb4 HW HO2 HO
          go_wp2
          go_roundw
          case rel => exact ⟨k + 1, c4, a4, by omega, rfl, by go_num, HO4, hbn⟩
          case measure => simp [intOf]; omega
        · obtain rfl : k = pm := by omega
          obtain ⟨W, hW⟩ : ∃ W, W = L.map (fun q => (⟨(treB g q).toArray⟩ : ByteArray)) := ⟨_, rfl⟩
          have HF : Hid (OwnS wr (w1.heap.size + 1) a3 k c3 W) := by
            have h1 := HO.out
            rwa [List.take_of_length_le (by rw [HL.out]; exact Nat.le_refl _), ← hW] at h1
          have hEW := HE.out
          have hlw := HLEN.out
          rw [← hW] at hEW hlw
          have hcr := cellThru hbr hlt1 hcell
          have hP := impl_PermText ra rn rc R wr (hroot.below hbw1)
          have hJ : ∀ w2, Below wr.heap.size wr w2 → Calls Try.prog 60 #[.slice a3 k c3, .string ⟨#[32]⟩] w2 (RetV w2 (.string ⟨(jnS spc W).toArray⟩)) := fun w2 hb2 => join_any a3 k c3 W spc w2 ((HF.out.sl (by omega)).below hb2) (by omega)
          have hlp : (⟨(ptx R).toArray⟩ : ByteArray).size ≤ 4000000000 := by rw [szS]; omega
          have hlj : (⟨(jnS spc W).toArray⟩ : ByteArray).size ≤ 4000000000 := by rw [szS]; omega
          have HEE : Hid ((⟨E.toArray⟩ : ByteArray) = (⟨(ptx R).toArray⟩ : ByteArray) ++ ⟨#[40]⟩ ++ (⟨(jnS spc W).toArray⟩ : ByteArray) ++ ⟨#[41]⟩) := by
            show _ = _
            rw [hEW]
            have e1 : (⟨#[40]⟩ : ByteArray) = ⟨[(40 : UInt8)].toArray⟩ := rfl
            have e2 : (⟨#[41]⟩ : ByteArray) = ⟨[(41 : UInt8)].toArray⟩ := rfl
            rw [e1, e2, catS, catS, catS]
          generalize (⟨(ptx R).toArray⟩ : ByteArray) = PB at hP hlp HEE
          generalize (⟨(jnS spc W).toArray⟩ : ByteArray) = JB at hJ hlj HEE
          clear hW hEW hlw HO HE HLEN
          go_wp2_with fail
          refine hP.mono ?_
          rintro e w2 ⟨rfl, hb2⟩
          have hJ2 := hJ w2 hb2
          clear hP hJ
          go_wp2_with fail
          refine hJ2.mono ?_
          rintro e w3 ⟨rfl, hb3⟩
          have hbe : Below w.heap.size w w3 := ((hb.trans (hbw1.mono hb.size)).trans (hb2.mono (by have := hb.size; omega))).trans (hb3.mono (by have := hb.size; have := hb2.size; omega))
          clear hJ2
          go_wp2
          go_ret
          exact ⟨by rw [HEE.out]; rfl, hbe⟩

theorem treP_of {xs : List Int} (h : SpOk xs) : treP xs = treB 8 xs := if_pos h

set_option maxHeartbeats 1000000 in
theorem impl_TreeText (a : Option Addr) (n c : Nat) (xs : List Int) (w : World) (h : SlI w a n c xs) :
    Calls Try.prog 16 #[.slice a n c] w (RetV w (.string ⟨(treP xs).toArray⟩)) := by
  have HN : Hid (xs.length = n) := h.2.1
  have hI := impl_IsPerm a n c xs w h
  by_cases hok : SpOk xs
  · rw [treP_of hok]
    have hn : 1 ≤ n := by have h1 := hok.2; have h2 := HN.out; omega
    have h8 : n ≤ 8 := by have h1 := hok.1.1; have h2 := HN.out; omega
    have hp : Hid (Perm8 xs) := hok.1
    rw [decide_eq_true hok.1] at hI
    have hn0 : ((n : Int) == 0) = false := by rw [beq_eq_false_iff_ne]; omega
    have hD0 : ∀ W, Below w.heap.size w W → Calls Try.prog 63 #[.slice a n c] W (RetV W (.string ⟨(treB 8 xs).toArray⟩)) := fun W hb => treeText_any 8 (Nat.le_refl _) a n c xs W (h.below hb) hp hn h8
    generalize (⟨(treB 8 xs).toArray⟩ : ByteArray) = T at hD0 ⊢
    clear hok
    go_enter Try.func16, Try.ntmps16
    go_wp2_with fail
    refine hI.mono ?_
    rintro e w1 ⟨rfl, hb1⟩
    have hD := hD0 w1 hb1
    clear hI hD0
    go_wp2_with fail
    refine hD.mono ?_
    rintro e w2 ⟨rfl, hb2⟩
    clear hD
    go_wp2
    go_ret
    exact ⟨rfl, hb1.trans (hb2.mono hb1.size)⟩
  · have e1 : treP xs = [] := if_neg hok
    rw [e1]
    have hcase : (decide (Perm8 xs) = true ∧ n = 0) ∨ decide (Perm8 xs) = false := by
      by_cases hp : Perm8 xs
      · refine .inl ⟨decide_eq_true hp, ?_⟩
        have h1 := HN.out
        by_cases h2 : n = 0
        · exact h2
        · exact absurd ⟨hp, by omega⟩ hok
      · exact .inr (decide_eq_false hp)
    clear e1 hok
    rcases hcase with ⟨hd, rfl⟩ | hd
    all_goals
      rw [hd] at hI
      clear hd
      go_enter Try.func16, Try.ntmps16
      go_wp2_with fail
      refine hI.mono ?_
      rintro e w1 ⟨rfl, hb1⟩
      go_wp2
      go_ret
      exact ⟨rfl, hb1⟩

set_option maxHeartbeats 1000000 in
/-- The reference's text, of a permutation that is not empty. -/
theorem treeTextS_any : ∀ (g : Nat), g ≤ 8 → ∀ (a : Option Addr) (n c : Nat) (xs : List Int) (w : World), SlI w a n c xs → Hid (Perm8 xs) → 1 ≤ n → n ≤ g →
    Calls Try.prog 14 #[.slice a n c] w (RetV w (.string ⟨(treB g xs).toArray⟩)) := by
  intro g
  induction g with
  | zero => intros; omega
  | succ g ih =>
    intro hg8 a n c xs w h hp hn hg
    have HN : Hid (xs.length = n) := h.2.1
    have hok : SpOk xs := ⟨hp.out, by rw [HN.out]; exact hn⟩
    have hS := spec_SplitPerm a n c xs w h
    rw [show splRP xs = splR xs from if_pos hok, show splPP xs = splP xs from if_pos hok, decide_eq_true hok] at hS
    clear hok
    by_cases hn1 : n = 1
    · have e : treB (g + 1) xs = [49] := by unfold treB; rw [if_pos (by rw [HN.out, hn1])]
      rw [e]; clear e
      subst hn1
      go_enter Try.func14, Try.ntmps14
      go_wp2_with fail
      refine hS.mono ?_
      rintro e w1 ⟨ra, rn, rc, pb, pm, pd, rfl, ho, hb⟩
      clear hS
      go_wp2
      go_ret
      exact ⟨rfl, hb.alloc hb.size _⟩
    · have hn2 : 2 ≤ n := by omega
      have e : treB (g + 1) xs = ptx (splR xs) ++ [40] ++ jnS spc ((splP xs).map fun q => ⟨(treB g q).toArray⟩) ++ [41] := by rw [treB, if_neg (by rw [HN.out]; exact hn1)]
      have hlen := treB_len (g + 1) xs hp.out (by rw [HN.out]; exact hn)
      have hlb := lB_le (g + 1) hg8
      rw [e] at hlen
      simp only [List.length_append, List.length_cons, List.length_nil] at hlen
      have IH := Lib.hid (ih (by omega))
      have hn1' : ((n : Int) == 1) = false := by rw [beq_eq_false_iff_ne]; omega
      clear ih
      obtain ⟨E, hE⟩ : ∃ E, E = treB (g + 1) xs := ⟨_, rfl⟩
      rw [← hE]
      rw [e] at hE
      clear e
      go_enter Try.func14, Try.ntmps14
      go_wp2_with fail
      refine hS.mono ?_
      rintro e w1 ⟨ra, rn, rc, pb, pm, pd, rfl, ho, hb⟩
      obtain ⟨hii, hpm8, hpm1, HQ⟩ := iis_parts ho.parts hp.out (by rw [HN.out]; exact hn2)
      have hrl := splR_len hp.out
      have hroot := ho.root.sl (by have := ho.root.1.1; omega)
      have hsub := totS_le (ss := (splP xs).map fun q => (⟨(treB g q).toArray⟩ : ByteArray)) (b := lB g) (fun s hs => by
        obtain ⟨q, hq, rfl⟩ := List.mem_map.1 hs
        have := treB_len g q ((splP_spec hp.out (by rw [HN.out]; exact hn2)).1 q hq).1 ((splP_spec hp.out (by rw [HN.out]; exact hn2)).1 q hq).2.1
        rw [szS]; exact this)
      have hlbg : lB g ≤ 4000000000 := lB_le g (by omega)
      obtain ⟨L, hL⟩ : ∃ L, L = splP xs := ⟨_, rfl⟩
      rw [← hL] at hii HQ hE hlen hsub
      obtain ⟨R, hR⟩ : ∃ R, R = splR xs := ⟨_, rfl⟩
      rw [← hR] at hroot hE hlen
      have HE := Lib.hid hE
      have HL : Hid (L.length = pm) := hii.2.1
      have HLEN := Lib.hid hlen
      have HSUB : Hid (totS (L.map fun q => (⟨(treB g q).toArray⟩ : ByteArray)) ≤ 8 * 4000000000) := by
        rw [List.length_map, HL.out] at hsub
        exact Nat.le_trans hsub (Nat.mul_le_mul hpm8 hlbg)
      have hba := below_alloc w1 (.cells #[.slice ra rn rc, .slice pb pm pd] 58)
      clear hS hL hR ho hE hlen hsub hlbg
      go_wp2
      have hbx : Below w.heap.size w ((w1.alloc (.cells #[.slice ra rn rc, .slice pb pm pd] 58)).alloc (.cells #[] 9)) := (hb.alloc hb.size _).alloc (by simp; have := hb.size; omega) _
      have hb1 : Below w1.heap.size w1 ((w1.alloc (.cells #[.slice ra rn rc, .slice pb pm pd] 58)).alloc (.cells #[] 9)) := hba.alloc (by simp) _
      have hcell : ((w1.alloc (.cells #[.slice ra rn rc, .slice pb pm pd] 58)).alloc (.cells #[] 9)).cell? ⟨w1.heap.size, 0, none⟩ = some (.slice ra rn rc) := by
        simp [World.cell?_alloc_past, World.cell?_alloc_at]
      have hcell1 : ((w1.alloc (.cells #[.slice ra rn rc, .slice pb pm pd] 58)).alloc (.cells #[] 9)).cell? ⟨w1.heap.size, 1, none⟩ = some (.slice pb pm pd) := by
        simp [World.cell?_alloc_past, World.cell?_alloc_at]
      have hszx : w1.heap.size + 1 + 1 = ((w1.alloc (.cells #[.slice ra rn rc, .slice pb pm pd] 58)).alloc (.cells #[] 9)).heap.size := by simp
      have ho0 : OwnS ((w1.alloc (.cells #[.slice ra rn rc, .slice pb pm pd] 58)).alloc (.cells #[] 9)) (w1.heap.size + 1) (some ⟨w1.heap.size + 1, 0, none⟩) 0 0 [] := by
        have := OwnS.lit0 (w1.alloc (.cells #[.slice ra rn rc, .slice pb pm pd] 58))
        simpa using this
      generalize (w1.alloc (.cells #[.slice ra rn rc, .slice pb pm pd] 58)).alloc (.cells #[] 9) = wx at hbx hb1 hcell hcell1 hszx ho0 ⊢
      have hlt1 : w1.heap.size < w1.heap.size + 1 := Nat.lt_succ_self _
      clear hba
      go_loopw [5, 6] (fun ov kv wr => ∃ (k c3 : Nat) (a3 : Option Addr), k ≤ pm ∧ ov = .slice a3 k c3 ∧ kv = .int .i64 k ∧ Hid (OwnS wr (w1.heap.size + 1) a3 k c3 ((L.take k).map fun q => ⟨(treB g q).toArray⟩)) ∧ Below (w1.heap.size + 1) wx wr) (fun _ kv _ => pm - (intOf kv).toNat)
      case atStart => exact ⟨0, 0, _, Nat.zero_le _, rfl, by go_num, ho0, Below.refl _ _⟩
      case round =>
        obtain ⟨k, c3, a3, hk, rfl, rfl, HO, hbr⟩ := hrel
        have hszr : w1.heap.size + 1 + 1 ≤ wr.heap.size := by have := hbr.size; omega
        have hbw1 : Below w1.heap.size w1 wr := hb1.trans (hbr.mono (by omega))
        have hcr1 := cellThru hbr hlt1 hcell1
        by_cases hlt : k < pm
        · obtain ⟨qb, qo, qa, qn, qc, q, rfl, hx, hq, HX⟩ := (hii.below hbw1).at hlt
          have hqm : q ∈ L := List.mem_of_getElem? HX.out
          obtain ⟨HP, hq1, hq2⟩ := HQ.out q hqm
          have hql := hq.2.1
          have hC := IH.out qa qn qc q wr hq HP (by omega) (by have := HN.out; omega)
          have HW : Hid ((L.take (k + 1)).map (fun q => (⟨(treB g q).toArray⟩ : ByteArray)) = (L.take k).map (fun q => (⟨(treB g q).toArray⟩ : ByteArray)) ++ [⟨(treB g q).toArray⟩]) := wrds_take HX.out
          generalize (⟨(treB g q).toArray⟩ : ByteArray) = T at hC HW
          clear HP hq1 hq2 hql hq hqm
          go_wp2_with fail
          refine hC.mono ?_
          rintro e w2 ⟨rfl, hb2⟩
          have HO2 := Lib.hid (HO.out.below hb2)
          have hsz2 : w1.heap.size + 1 ≤ w2.heap.size := by have := hb2.size; omega
          have hbr2 : Below (w1.heap.size + 1) wx w2 := hbr.trans (hb2.mono (by omega))
          clear hC hb2 hbr hx hcr1
          go_wp2_with (at_builtin; refine wpList_appS rfl _ _ rfl (w1.heap.size + 1) _ _ _ _ rfl HO2.out _ rfl (by omega) hsz2 ?_)
          intro a4 c4 w4 ho4 hb4
          have HO4 : Hid (OwnS w4 (w1.heap.size + 1) a4 (k + 1) c4 ((L.take (k + 1)).map (fun q => (⟨(treB g q).toArray⟩ : ByteArray)))) := by rw [HW.out, List.map_take]; exact ho4
          have hbn := hbr2.trans hb4
          clear ho4 hb4 HW HO2 HO
          go_wp2
          go_roundw
          case rel => exact ⟨k + 1, c4, a4, by omega, rfl, by go_num, HO4, hbn⟩
          case measure => simp [intOf]; omega
        · obtain rfl : k = pm := by omega
          obtain ⟨W, hW⟩ : ∃ W, W = L.map (fun q => (⟨(treB g q).toArray⟩ : ByteArray)) := ⟨_, rfl⟩
          have HF : Hid (OwnS wr (w1.heap.size + 1) a3 k c3 W) := by
            have h1 := HO.out
            rwa [List.take_of_length_le (by rw [HL.out]; exact Nat.le_refl _), ← hW] at h1
          have hEW := HE.out
          have hlw := HLEN.out
          have hsw := HSUB.out
          rw [← hW] at hEW hlw hsw
          have hcr := cellThru hbr hlt1 hcell
          have hP := spec_PermText ra rn rc R wr (hroot.below hbw1)
          have hs1 : spc.size = 1 := rfl
          have hJ : ∀ w2, Below wr.heap.size wr w2 → Calls Try.prog 10 #[.slice a3 k c3, .string ⟨#[32]⟩] w2 (RetV w2 (.string ⟨(jnS spc W).toArray⟩)) := fun w2 hb2 => spec_Join a3 k c3 W spc w2 ((HF.out.sl (by omega)).below hb2) (by rw [hs1]; omega) (by rw [hs1]; omega)
          have hlp : (⟨(ptx R).toArray⟩ : ByteArray).size ≤ 4000000000 := by rw [szS]; omega
          have hlj : (⟨(jnS spc W).toArray⟩ : ByteArray).size ≤ 4000000000 := by rw [szS]; omega
          have HEE : Hid ((⟨E.toArray⟩ : ByteArray) = (⟨(ptx R).toArray⟩ : ByteArray) ++ ⟨#[40]⟩ ++ (⟨(jnS spc W).toArray⟩ : ByteArray) ++ ⟨#[41]⟩) := by
            show _ = _
            rw [hEW]
            have e1 : (⟨#[40]⟩ : ByteArray) = ⟨[(40 : UInt8)].toArray⟩ := rfl
            have e2 : (⟨#[41]⟩ : ByteArray) = ⟨[(41 : UInt8)].toArray⟩ := rfl
            rw [e1, e2, catS, catS, catS]
          generalize (⟨(ptx R).toArray⟩ : ByteArray) = PB at hP hlp HEE
          generalize (⟨(jnS spc W).toArray⟩ : ByteArray) = JB at hJ hlj HEE
          clear hW hEW hlw HO HE HLEN hsw HSUB hs1
          go_wp2_with fail
          refine hP.mono ?_
          rintro e w2 ⟨rfl, hb2⟩
          have hJ2 := hJ w2 hb2
          clear hP hJ
          go_wp2_with fail
          refine hJ2.mono ?_
          rintro e w3 ⟨rfl, hb3⟩
          have hbe : Below w.heap.size w w3 := ((hb.trans (hbw1.mono hb.size)).trans (hb2.mono (by have := hb.size; omega))).trans (hb3.mono (by have := hb.size; have := hb2.size; omega))
          clear hJ2
          go_wp2
          go_ret
          exact ⟨by rw [HEE.out]; rfl, hbe⟩

set_option maxHeartbeats 1000000 in
theorem spec_TreeText (a : Option Addr) (n c : Nat) (xs : List Int) (w : World) (h : SlI w a n c xs) :
    Calls Try.prog 14 #[.slice a n c] w (RetV w (.string ⟨(treP xs).toArray⟩)) := by
  by_cases hok : SpOk xs
  · rw [treP_of hok]
    exact treeTextS_any 8 (Nat.le_refl _) a n c xs w h hok.1 (by have h1 := hok.2; have h2 := h.2.1; omega) (by have h1 := hok.1.1; have h2 := h.2.1; omega)
  · have hS := spec_SplitPerm a n c xs w h
    have e1 : treP xs = [] := if_neg hok
    rw [e1]
    rw [show splRP xs = [] from if_neg hok, show splPP xs = [] from if_neg hok, decide_eq_false hok] at hS
    clear e1 hok
    go_enter Try.func14, Try.ntmps14
    go_wp2_with fail
    refine hS.mono ?_
    rintro e w1 ⟨ra, rn, rc, pb, pm, pd, rfl, ho, hb⟩
    clear hS
    go_wp2
    go_ret
    exact ⟨rfl, hb.alloc hb.size _⟩
end Go.Proofs.Ytmojniiimondfaa
