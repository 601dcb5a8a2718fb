/- The roots in the tree of a permutation: the plain law, and the program's walk. Conditions: a permutation of at most 8 numbers. -/
import Derived.Test.YtjhlianledgiiaaF54
import Derived.Test.YtjhlianledgiiaaF66
namespace Go.Proofs.Ytjhlianledgiiaa
open Go.RowKit

/-- A bound of how many roots there are. -/
def cB : Nat → Nat
  | 0 => 0
  | 1 => 0
  | m + 2 => 1 + (m + 2) * cB (m + 1)
/-- The roots, with fuel. -/
def rtsF : Nat → List Int → List (List Int)
  | 0, _ => []
  | g + 1, xs => if xs.length < 2 then [] else splR xs :: (splP xs).flatMap (rtsF g)
theorem splP_len2 {xs : List Int} (h2 : 2 ≤ xs.length) : (splP xs).length ≤ xs.length := by
  unfold splP
  rw [if_neg (by omega)]
  split
  · simp [sumSplit]; omega
  · split
    · simp [sumSplit]; omega
    · rw [List.length_map]; exact dfl_len _ _
theorem flatMap_le {f : List Int → List (List Int)} {b : Nat} : ∀ {L : List (List Int)}, (∀ q ∈ L, (f q).length ≤ b) → (L.flatMap f).length ≤ L.length * b
  | [], _ => by simp
  | x :: L, h => by
    have h1 := flatMap_le (L := L) (fun q hq => h q (List.mem_cons_of_mem _ hq))
    have h2 := h x (List.mem_cons_self ..)
    rw [List.flatMap_cons, List.length_append, List.length_cons, Nat.succ_mul]; omega
theorem rtsF_len : ∀ (g m : Nat) (xs : List Int), Perm8 xs → xs.length ≤ m → (rtsF g xs).length ≤ cB m
  | 0, _, _, _, _ => Nat.zero_le _
  | g + 1, m, xs, hp, hm => by
    unfold rtsF
    split
    · exact Nat.zero_le _
    · rename_i h2
      obtain ⟨z, rfl⟩ : ∃ z, m = z + 2 := ⟨m - 2, by omega⟩
      have hs := (splP_spec hp (by omega)).1
      have h3 := flatMap_le (f := rtsF g) (b := cB (z + 1)) (L := splP xs) (fun q hq => rtsF_len g (z + 1) q (hs q hq).1 (by have := (hs q hq).2.2; omega))
      have h4 := splP_len2 (xs := xs) (by omega)
      have h5 : (splP xs).length * cB (z + 1) ≤ (z + 2) * cB (z + 1) := Nat.mul_le_mul_right _ (by omega)
      rw [List.length_cons]
      show _ ≤ 1 + (z + 2) * cB (z + 1)
      omega
theorem rtsF_rows : ∀ (g : Nat) (xs : List Int), Perm8 xs → ∀ r ∈ rtsF g xs, r.length ≤ 8
  | 0, _, _, _, h => by simp [rtsF] at h
  | g + 1, xs, hp, r, h => by
    unfold rtsF at h
    split at h
    · simp at h
    · rename_i h2
      rcases List.mem_cons.1 h with rfl | h
      · exact splR_len hp
      · obtain ⟨q, hq, hr⟩ := List.mem_flatMap.1 h
        exact rtsF_rows g q ((splP_spec hp (by omega)).1 q hq).1 r hr
theorem rtsF_short {g : Nat} {xs : List Int} (h : xs.length < 2) : rtsF g xs = [] := by
  cases g with
  | zero => rfl
  | succ g => unfold rtsF; rw [if_pos h]
theorem rtsF_long {g : Nat} {xs : List Int} (h : 2 ≤ xs.length) : rtsF (g + 1) xs = splR xs :: (splP xs).flatMap (rtsF g) := by
  rw [rtsF, if_neg (by omega)]
theorem rtsF_bound {xs : List Int} (g : Nat) (hp : Perm8 xs) : (rtsF g xs).length ≤ 30000 := by
  have h1 := rtsF_len g 8 xs hp hp.1
  have h2 : cB 8 = 28961 := by decide
  omega
theorem flat_succ {f : List Int → List (List Int)} {L : List (List Int)} {k : Nat} {q : List Int} (h : L[k]? = some q) : (L.take (k + 1)).flatMap f = (L.take k).flatMap f ++ f q := by
  rw [List.take_add_one, h]; simp
theorem flatTk_le {f : List Int → List (List Int)} (L : List (List Int)) (k : Nat) : ((L.take k).flatMap f).length ≤ (L.flatMap f).length := by
  conv => rhs; rw [← List.take_append_drop k L, List.flatMap_append, List.length_append]
  exact Nat.le_add_right _ _

/-- Rows put behind rows. -/
theorem appRows {w w9 : World} {lo hi mid hi' n c g g9 c9 m sc : Nat} {sa : Option Addr} {rs ss : List (Option Addr × Nat × Nat)} {xss yss : List (List Int)} (h : OwnIIr w lo hi (some ⟨g, 0, none⟩) n c rs xss) (h' : OwnIIr w mid hi' sa m sc ss yss)
    (hm : hi ≤ mid) (hlo : lo ≤ mid) (hg : w.grownBy w9 (some g)) (hown : w9.ownsRow lo 22 1 (.slice (some ⟨g9, 0, none⟩) (n + m) c9) (n + m) (rs.map sl3 ++ ss.map sl3)) :
    OwnIIr w9 lo w9.heap.size (some ⟨g9, 0, none⟩) (n + m) c9 (rs ++ ss) (xss ++ yss) := by
  obtain ⟨h1, h2, h3, h4, h5, h6⟩ := h
  obtain ⟨k1, k2, k3, k4, k5, k6⟩ := h'
  have rowOld : ∀ (i : Nat) (r : Option Addr × Nat × Nat) (ys : List Int), rs[i]? = some r → xss[i]? = some ys → OwnIn w9 lo w9.heap.size r.1 r.2.1 r.2.2 ys := by
    intro i r ys hr hy
    have q := h5 i r ys hr hy
    exact ((q.1.grown hg (own_types_ne q.1.2 h3 (by decide))).ins).mono (Nat.le_refl _) (Nat.le_refl _)
  have rowNew : ∀ (i : Nat) (r : Option Addr × Nat × Nat) (ys : List Int), ss[i]? = some r → yss[i]? = some ys → OwnIn w9 lo w9.heap.size r.1 r.2.1 r.2.2 ys := by
    intro i r ys hr hy
    have q := k5 i r ys hr hy
    exact ((q.1.grown hg (own_types_ne q.1.2 h3 (by decide))).ins).mono hlo (Nat.le_refl _)
  have bOld : ∀ (i : Nat) (r : Option Addr × Nat × Nat) (q : Addr), rs[i]? = some r → r.1 = some q → q.block < hi := by
    intro i r q hr hq
    have hi' : i < rs.length := (List.getElem?_eq_some_iff.1 hr).1
    exact (h5 i r _ hr (List.getElem?_eq_getElem (by omega))).2 q hq
  have bNew : ∀ (i : Nat) (r : Option Addr × Nat × Nat) (q : Addr), ss[i]? = some r → r.1 = some q → mid ≤ q.block := by
    intro i r q hr hq
    have hi' : i < ss.length := (List.getElem?_eq_some_iff.1 hr).1
    exact ((k5 i r _ hr (List.getElem?_eq_getElem (by omega))).1.lo q hq).1
  refine ⟨by rw [List.length_append, h1, k1], by rw [List.length_append, h2, k2], by rw [List.map_append]; exact hown, fun q hq => by obtain rfl := Option.some.inj hq; exact (hown.lt g9 rfl).2, ?_, ?_⟩
  · intro i r ys hr hy
    by_cases hi : i < n
    · rw [List.getElem?_append_left (by omega)] at hr hy
      exact rowOld i r ys hr hy
    · rw [List.getElem?_append_right (by omega), h2] at hr
      rw [List.getElem?_append_right (by omega), h1] at hy
      exact rowNew _ r ys hr hy
  · intro i j r s p q hij hr hs hp hq
    by_cases hi : i < n
    · rw [List.getElem?_append_left (by omega)] at hr
      by_cases hj : j < n
      · rw [List.getElem?_append_left (by omega)] at hs
        exact h6 i j r s p q hij hr hs hp hq
      · rw [List.getElem?_append_right (by omega), h2] at hs
        have e1 := bOld i r p hr hp
        have e2 := bNew _ s q hs hq
        omega
    · rw [List.getElem?_append_right (by omega), h2] at hr
      rw [List.getElem?_append_right (by omega), h2] at hs
      exact k6 _ _ r s p q (by omega) hr hs hp hq

/-- 'append(rows, rows...)' on the call's own rows, the later ones nil or not. -/
theorem wpList_append_rows {w : World} {ops : Array Oper} {rest : List Oper} {o : Oper} {act : Act} {Q : Exit → Act → World → Prop} (hgd : o.guard = none) (s x : Operand)
    (ho : o.op = .call { callee := .builtin .append, args := #[s, x], argTypes := #[23, 23] })
    (lo hi g n c : Nat) (rs : List (Option Addr × Nat × Nat)) (xss : List (List Int)) (hs : act.eval s = .slice (some ⟨g, 0, none⟩) n c) (hown : OwnIIr w lo hi (some ⟨g, 0, none⟩) n c rs xss)
    (mid hi' : Nat) (sa : Option Addr) (m sc : Nat) (ss : List (Option Addr × Nat × Nat)) (yss : List (List Int)) (hx : act.eval x = .slice sa m sc) (hss : OwnIIr w mid hi' sa m sc ss yss) (hm : hi ≤ mid) (hlo : lo ≤ mid)
    (hn : n + m < 4194304) (hB : lo ≤ w.heap.size) (hhi : hi ≤ w.heap.size)
    (h : ∀ g' c' w', OwnIIr w' lo w'.heap.size (some ⟨g', 0, none⟩) (n + m) c' (rs ++ ss) (xss ++ yss) → (g' = g ∨ w.heap.size ≤ g') → w.grownBy w' (some g) → wpList Try.prog ops Q rest (act.put o.dst (.slice (some ⟨g', 0, none⟩) (n + m) c')) w') : wpList Try.prog ops Q (o :: rest) act w := by
  have hR := hss.2.2.1
  cases sa with
  | some p =>
    obtain ⟨k, rfl⟩ : ∃ k, p = ⟨k, 0, none⟩ := by
      rcases hR.2 with ⟨h2, _⟩ | ⟨g2, cap, cur, h2, _⟩
      · simp at h2
      · simp only [Value.slice.injEq] at h2; exact ⟨g2, Option.some.inj h2.1⟩
    refine wpList_append_loc hgd s x ho lo g n c _ hs hown.2.2.1 ⟨k, 0, none⟩ m sc (ss.map sl3) hx (by rw [List.length_map, hss.2.1]) (fun j u hj => ?_) (rows_oneCell _) hn hB ?_
    · have h1 := (List.getElem?_eq_some_iff.1 hj).1
      rw [List.length_map, hss.2.1] at h1
      rw [Addr.add_lit, Nat.zero_add, hR.cellAt j (by omega)]; exact hj
    · intro g' c' w' hr hf hg
      exact h g' c' w' (appRows hown hss hm hlo hg hr) hf hg
  | none =>
    obtain ⟨rfl, rfl⟩ : m = 0 ∧ sc = 0 := by
      rcases hR.2 with ⟨h2, h3⟩ | ⟨g2, cap, cur, h2, _⟩
      · simp only [Value.slice.injEq] at h2; exact ⟨h2.2.1, h2.2.2⟩
      · simp at h2
    obtain rfl : ss = [] := List.length_eq_zero_iff.1 hss.2.1
    obtain rfl : yss = [] := List.length_eq_zero_iff.1 hss.1
    obtain ⟨i0, hi0, hz0, hz1, hz2⟩ := info_parts infoRow
    have hrun := run_append_owned_none (P := Try.prog) w lo 23 o.type 22 i0 1 Try.underlying23 hi0 _ n _ hown.2.2.1
    exact wpList_append_run hgd s x _ _ ho _ _ _ hs hx hrun (h g c w (by simpa using hown.mono (Nat.le_refl _) hhi) (.inl rfl) ⟨rfl, rfl, rfl, Nat.le_refl _, fun _ _ _ => rfl⟩)

set_option maxHeartbeats 1000000 in
theorem roots_any : ∀ (g : Nat), g ≤ 8 → ∀ (a : Option Addr) (n c : Nat) (xs : List Int) (w : World), SlI w a n c xs → Hid (Perm8 xs) → n ≤ g →
    Calls Try.prog 74 #[.slice a n c] w (RetII w (rtsF g xs)) := by
  intro g
  induction g with
  | zero =>
    intro hg8 a n c xs w h hp hn
    obtain rfl : n = 0 := by omega
    have e : rtsF 0 xs = [] := rfl
    rw [e]; clear e
    go_enter Try.func74, Try.ntmps74
    go_wp2
    go_ret
    exact ⟨_, _, _, rfl, OwnII.nil _ _ _, Below.refl _ _⟩
  | succ g ih =>
    intro hg8 a n c xs w h hp hn
    have HN : Hid (xs.length = n) := h.2.1
    by_cases hn2 : n < 2
    · have e : rtsF (g + 1) xs = [] := rtsF_short (by rw [HN.out]; exact hn2)
      rw [e]; clear e
      go_enter Try.func74, Try.ntmps74
      go_wp2
      go_ret
      exact ⟨_, _, _, rfl, OwnII.nil _ _ _, Below.refl _ _⟩
    · have hn2' : ¬ ((n : Int) < 2) := by omega
      have e := rtsF_long (g := g) (xs := xs) (by rw [HN.out]; omega)
      have hbd := rtsF_bound (g + 1) hp.out
      rw [e] at hbd
      have HBD := Lib.hid hbd
      have IH := Lib.hid (ih (by omega))
      have hS := split_any a n c xs w h hp (by omega)
      obtain ⟨E, hE⟩ : ∃ E, E = rtsF (g + 1) xs := ⟨_, rfl⟩
      rw [← hE]
      rw [e] at hE
      have HE := Lib.hid hE
      clear ih hE e hbd
      go_enter Try.func74, Try.ntmps74
      go_wp2_with fail
      refine hS.mono ?_
      rintro e w1 ⟨ra, rn, rc, pb, pm, pd, rfl, ho, hb⟩
      obtain ⟨hii, hpm8, hpm1, HQ⟩ := iis_parts ho.parts hp.out (by rw [HN.out]; omega)
      obtain ⟨L, hL⟩ : ∃ L, L = splP xs := ⟨_, rfl⟩
      rw [← hL] at hii HQ
      have HL0 := Lib.hid hL
      have HL : Hid (L.length = pm) := hii.2.1
      have hba := below_alloc w1 (.cells #[.slice ra rn rc, .slice pb pm pd] 25)
      have hrow := rows1 (w1.alloc (.cells #[.slice ra rn rc, .slice pb pm pd] 25)) (w1.heap.size + 1) w.heap.size w1.heap.size (by simp) ra rn rc (splR xs) (ho.root.below hba) (by have := hb.size; omega) (by omega)
      have hbx : Below w1.heap.size w1 ((w1.alloc (.cells #[.slice ra rn rc, .slice pb pm pd] 25)).alloc (.cells #[.slice ra rn rc] 22)) := hba.trans ((below_alloc _ _).mono (by simp))
      have hszx : ((w1.alloc (.cells #[.slice ra rn rc, .slice pb pm pd] 25)).alloc (.cells #[.slice ra rn rc] 22)).heap.size = w1.heap.size + 1 + 1 := by simp
      have HB := Lib.hid hb
      have hszb := hb.size
      clear hS hL ho hba hb
      go_wp2
      generalize (w1.alloc (.cells #[.slice ra rn rc, .slice pb pm pd] 25)).alloc (.cells #[.slice ra rn rc] 22) = wx at hrow hbx hszx ⊢
      have HR := Lib.hid hrow
      clear hrow
      go_loopw [4, 18] (fun ov kv wr => ∃ (k g9 m c9 : Nat) (rs : List (Option Addr × Nat × Nat)), k ≤ pm ∧ ov = .slice (some ⟨g9, 0, none⟩) m c9 ∧ kv = .int .i64 k ∧ Hid (OwnIIr wr w.heap.size wr.heap.size (some ⟨g9, 0, none⟩) m c9 rs (splR xs :: (L.take k).flatMap (rtsF g))) ∧ w1.heap.size ≤ g9 ∧ Below w1.heap.size w1 wr) (fun _ kv _ => pm - (intOf kv).toNat)
      case atStart => exact ⟨0, w1.heap.size + 1, 1, 1, _, Nat.zero_le _, rfl, by go_num, HR.out.mono (Nat.le_refl _) (by omega), by omega, hbx⟩
      case round =>
        obtain ⟨k, g9, m, c9, rs, hk, rfl, rfl, HO, hg9, hbr⟩ := hrel
        by_cases hlt : k < pm
        · obtain ⟨qb, qo, qa, qn, qc, q, rfl, hx, hq, HX⟩ := (hii.below hbr).at hlt
          have hqm : q ∈ L := List.mem_of_getElem? HX.out
          obtain ⟨HP, hq1, hq2⟩ := HQ.out q hqm
          have hql := hq.2.1
          have hC := IH.out qa qn qc q wr hq HP (by have := HN.out; omega)
          have hlen : (splR xs :: (L.take (k + 1)).flatMap (rtsF g)).length ≤ 30000 := by
            have h1 := HBD.out
            rw [← HL0.out] at h1
            have h2 := flatTk_le (f := rtsF g) L (k + 1)
            rw [List.length_cons] at h1 ⊢
            omega
          have esucc := flat_succ (f := rtsF g) HX.out
          rw [esucc, List.length_cons, List.length_append] at hlen
          have hml := HO.out.1
          rw [List.length_cons] at hml
          have HES := Lib.hid esucc
          have hszr := hbr.size
          clear esucc HP hq1 hq2 hql hq hqm
          go_wp2_with fail
          refine hC.mono ?_
          rintro e w2 ⟨sa, sn, sc, rfl, hos, hb2⟩
          have hbn : Below w1.heap.size w1 w2 := hbr.trans (hb2.mono hszr)
          have hsn := hos.len
          have hsz2 := hb2.size
          have HO2 := Lib.hid (HO.out.below hb2)
          have hsm : m + sn ≤ 30000 := by omega
          clear hC hml hlen
          obtain ⟨ss, hss⟩ := hos
          have hlo : w.heap.size ≤ w2.heap.size := by omega
          have HSS : Hid (OwnIIr w2 wr.heap.size w2.heap.size sa sn sc ss (rtsF g q)) := hss
          clear hss hsn hx
          go_wp2_with (at_builtin; refine wpList_append_rows rfl _ _ rfl w.heap.size wr.heap.size g9 m c9 rs _ rfl HO2.out wr.heap.size w2.heap.size sa sn sc ss _ rfl HSS.out (Nat.le_refl _) (by omega) (by omega) hlo hsz2 ?_)
          intro g10 c10 w3 hr3 hf3 hgr3
          have hne : ∀ j, some g9 = some j → w1.heap.size ≤ j := fun j hj => by cases hj; exact hg9
          have hb3 : Below w1.heap.size w1 w3 := hbn.grown hgr3 (by omega) hne
          have hg10 : w1.heap.size ≤ g10 := by omega
          have HF := Lib.hid hr3
          clear hr3 hf3 hgr3 hne
          go_wp2
          go_roundw
          case rel => exact ⟨k + 1, g10, m + sn, c10, rs ++ ss, by omega, rfl, by go_num, by rw [HES.out, ← List.cons_append]; exact HF.out, hg10, hb3⟩
          case measure => simp [intOf]; omega
        · obtain rfl : k = pm := by omega
          have HF := HO.out
          rw [List.take_of_length_le (by rw [HL.out]; exact Nat.le_refl _), HL0.out, ← HE.out] at HF
          have HF' := Lib.hid HF
          clear HF
          go_wp2
          go_ret
          exact ⟨_, _, _, rfl, HF'.out.toII, HB.out.trans (hbr.mono hszb)⟩
end Go.Proofs.Ytjhlianledgiiaa
