/- The program's search of occurrences, OccurrencesOf and CountPattern: the walks. No condition. -/
import Derived.Test.YtjhlianledgiiaaF28
import Derived.Test.YtjhlianledgiiaaApp
namespace Go.Proofs.Ytjhlianledgiiaa
open Go.RowKit

def OwnIIr (w : World) (lo hi : Nat) (a : Option Addr) (n c : Nat) (rs : List (Option Addr × Nat × Nat)) (xss : List (List Int)) : Prop :=
  xss.length = n ∧ rs.length = n ∧ w.ownsRow lo 22 1 (.slice a n c) n (rs.map sl3) ∧ (∀ p, a = some p → p.block < hi) ∧
    (∀ (i : Nat) (r : Option Addr × Nat × Nat) (xs : List Int), rs[i]? = some r → xss[i]? = some xs → OwnIn w lo hi r.1 r.2.1 r.2.2 xs) ∧
    (∀ (i j : Nat) (r s : Option Addr × Nat × Nat) (p q : Addr), i < j → rs[i]? = some r → rs[j]? = some s → r.1 = some p → s.1 = some q → p.block ≠ q.block)
theorem OwnIIr.below {w w' : World} {lo hi n c : Nat} {a : Option Addr} {rs : List (Option Addr × Nat × Nat)} {xss : List (List Int)} (h : OwnIIr w lo hi a n c rs xss) (hb : Below w.heap.size w w') : OwnIIr w' lo hi a n c rs xss := by
  obtain ⟨h1, h2, h3, h4, h5, h6⟩ := h
  exact ⟨h1, h2, own_below' h3 hb, h4, fun i r xs hr hx => (h5 i r xs hr hx).below hb, h6⟩
theorem OwnIIr.mono {w : World} {lo hi lo' hi' n c : Nat} {a : Option Addr} {rs : List (Option Addr × Nat × Nat)} {xss : List (List Int)} (h : OwnIIr w lo hi a n c rs xss) (h1' : lo' ≤ lo) (h2' : hi ≤ hi') : OwnIIr w lo' hi' a n c rs xss := by
  obtain ⟨h1, h2, h3, h4, h5, h6⟩ := h
  exact ⟨h1, h2, own_mono h3 h1', fun p hp => Nat.lt_of_lt_of_le (h4 p hp) h2', fun i r xs hr hx => (h5 i r xs hr hx).mono h1' h2', h6⟩
theorem OwnIIr.out {w w' : World} {lo hi l r n c : Nat} {a : Option Addr} {rs : List (Option Addr × Nat × Nat)} {xss : List (List Int)} (h : OwnIIr w lo hi a n c rs xss) (ho : Out l r w w') (hd : hi ≤ l ∨ r ≤ lo) : OwnIIr w' lo hi a n c rs xss := by
  obtain ⟨h1, h2, h3, h4, h5, h6⟩ := h
  exact ⟨h1, h2, own_outAt h3 ho (Nat.le_refl _) h4 hd, h4, fun i r xs hr hx => (h5 i r xs hr hx).out ho hd, h6⟩
theorem OwnIIr.grownOut {w w' : World} {lo hi n c : Nat} {a : Option Addr} {rs : List (Option Addr × Nat × Nat)} {xss : List (List Int)} {row : Option Nat} (h : OwnIIr w lo hi a n c rs xss) (hg : w.grownBy w' row) (hr : ∀ k, row = some k → k < lo ∨ hi ≤ k) : OwnIIr w' lo hi a n c rs xss := by
  cases row with
  | none => exact h.out (Out.ofGrown (lo := hi) (hi := hi) hg (fun k hk => by cases hk)) (.inl (Nat.le_refl _))
  | some k =>
    rcases hr k rfl with h1 | h1
    · exact h.out (Out.ofGrown (lo := 0) (hi := lo) hg (fun j hj => by cases hj; omega)) (.inr (Nat.le_refl _))
    · exact h.out (Out.ofGrown (lo := hi) (hi := k + 1) hg (fun j hj => by cases hj; omega)) (.inl (Nat.le_refl _))
theorem OwnIIr.rowAt {w : World} {lo hi n c : Nat} {a : Option Addr} {rs : List (Option Addr × Nat × Nat)} {xss : List (List Int)} (h : OwnIIr w lo hi a n c rs xss) {k : Nat} (hk : k < n) :
    ∃ g ra rn rc xs, a = some ⟨g, 0, none⟩ ∧ w.cell? ⟨g, k, none⟩ = some (.slice ra rn rc) ∧ OwnIn w lo hi ra rn rc xs ∧ Hid (xss[k]? = some xs) ∧ Hid (rs[k]? = some (ra, rn, rc)) := by
  obtain ⟨h1, h2, h3, h4, h5, h6⟩ := h
  obtain ⟨g, cur, rfl, _, _⟩ := own_head h3 (by omega)
  have hr : rs[k]? = some _ := List.getElem?_eq_getElem (by rw [h2]; exact hk)
  have hx : xss[k]? = some _ := List.getElem?_eq_getElem (by rw [h1]; exact hk)
  refine ⟨g, _, _, _, _, rfl, ?_, h5 k _ _ hr hx, hx, hr⟩
  rw [h3.cellAt k (by omega), List.getElem?_map, hr]; rfl

/-- 'append(out, row)', row the call's own and no row of out; what the call owns of integers stays. -/
theorem wpList_appIIr {w : World} {ops : Array Oper} {rest : List Oper} {o : Oper} {act : Act} {Q : Exit → Act → World → Prop} (hgd : o.guard = none) (s x : Operand)
    (ho : o.op = .call { callee := .builtin .append, args := #[s, x], argTypes := #[23, 23] })
    (lo hi mid : Nat) (a : Option Addr) (n c : Nat) (rs : List (Option Addr × Nat × Nat)) (xss : List (List Int)) (hs : act.eval s = .slice a n c) (hown : OwnIIr w lo hi a n c rs xss)
    (ra : Option Addr) (rn rc : Nat) (xs : List Int) (hrow : OwnIn w mid w.heap.size ra rn rc xs) (hdis : ∀ r ∈ rs, ∀ p q, r.1 = some p → ra = some q → p.block ≠ q.block) (hlo : lo ≤ mid)
    (g0 : Nat) (hx : act.eval x = .slice (some ⟨g0, 0, none⟩) 1 1) (hg0 : w.heap.size = g0) (hn : n < 4194304) (hB : lo ≤ w.heap.size) (hhi : hi ≤ w.heap.size)
    (h : ∀ a' c' w', OwnIIr w' lo w'.heap.size a' (n + 1) c' (rs ++ [(ra, rn, rc)]) (xss ++ [xs]) → Below lo w w' → Keep w w' → w.heap.size ≤ w'.heap.size → w.grownBy w' (Value.slice a n c).ownBlock → (∀ p, a' = some p → a = some p ∨ w.heap.size ≤ p.block) → wpList Try.prog ops Q rest (act.put o.dst (.slice a' (n + 1) c')) w') :
    wpList Try.prog ops Q (o :: rest) act (w.alloc (.cells #[.slice ra rn rc] 22)) := by
  subst hg0
  obtain ⟨h1, h2, h3, h4, h5, h6⟩ := hown
  refine wpList_app1x hgd s x 23 ho lo 22 (.slice none 0 0) 24 Try.underlying23 infoRow rfl a n c _ hs h3 _ rfl hx hn (by omega) hB ?_
  intro a' c' w' g1 g2 g3 g4
  have hsz : w.heap.size ≤ w'.heap.size := g3.size
  refine h a' c' w' ?_ g3 (fun B b m d ys hq => hq.grown g2 (own_types_ne hq.2 h3 (by decide))) hsz g2 g4
  refine ⟨by rw [List.length_append, h1]; rfl, by rw [List.length_append, h2]; rfl, by rw [List.map_append]; exact g1, fun p hp => ?_, ?_, ?_⟩
  · subst hp; exact (g1.lt p.block rfl).2
  · intro i r ys hr hy
    have old : ∀ (l m : Nat) (q : Option Addr × Nat × Nat) (zs : List Int), OwnIn w l m q.1 q.2.1 q.2.2 zs → lo ≤ l → m ≤ w.heap.size → OwnIn w' lo w'.heap.size q.1 q.2.1 q.2.2 zs := by
      intro l m q zs hq hl hm
      have e := hq.1.grown g2 (own_types_ne hq.1.2 h3 (by decide))
      exact ⟨e.mono hl, fun p hp => by have := hq.2 p hp; omega⟩
    rcases Nat.lt_or_ge i n with hin | hin
    · rw [List.getElem?_append_left (by omega)] at hr
      rw [List.getElem?_append_left (by omega)] at hy
      exact old lo hi r ys (h5 i r ys hr hy) (Nat.le_refl _) hhi
    · rw [List.getElem?_append_right (by omega)] at hr
      rw [List.getElem?_append_right (by omega)] at hy
      obtain rfl : i = n := by
        have := (List.getElem?_eq_some_iff.1 hr).1
        simp at this; omega
      simp only [h2, h1, Nat.sub_self, List.getElem?_cons_zero, Option.some.injEq] at hr hy
      subst hr; subst hy
      exact old mid _ _ _ hrow (by omega) (Nat.le_refl _)
  · intro i j r s' p q hij hr hs' hp hq
    have hjn : j < n + 1 := by
      have := (List.getElem?_eq_some_iff.1 hs').1
      simp [h2] at this; omega
    rw [List.getElem?_append_left (by omega)] at hr
    rcases Nat.lt_or_ge j n with hj | hj
    · rw [List.getElem?_append_left (by omega)] at hs'
      exact h6 i j r s' p q hij hr hs' hp hq
    · rw [List.getElem?_append_right (by omega)] at hs'
      obtain rfl : j = n := by omega
      simp only [h2, Nat.sub_self, List.getElem?_cons_zero, Option.some.injEq] at hs'
      subst hs'
      exact hdis r (List.mem_of_getElem? hr) p q hp hq

theorem OwnII.lit1' (w : World) : OwnII ((w.alloc (.cells #[] 3)).alloc (.cells #[.slice (some ⟨w.heap.size, 0, none⟩) 0 0] 22)) w.heap.size ((w.alloc (.cells #[] 3)).alloc (.cells #[.slice (some ⟨w.heap.size, 0, none⟩) 0 0] 22)).heap.size (some ⟨w.heap.size + 1, 0, none⟩) 1 1 [[]] := by
  refine ⟨[(some ⟨w.heap.size, 0, none⟩, 0, 0)], rfl, rfl, ?_, ?_, ?_, ?_⟩
  · have h := World.ownsRow_lit (e := 22) (size := 1) (w.alloc (.cells #[] 3)) #[.slice (some ⟨w.heap.size, 0, none⟩) 0 0] 1 (Nat.le_refl _) (by unfold maxLen; omega) rfl
    have h2 := own_mono (B' := w.heap.size) h (by simp)
    simpa [sl3] using h2
  · intro p hp
    obtain rfl := Option.some.inj hp
    simp
  · intro i r xs hr hx
    cases i with
    | zero =>
      simp at hr hx
      subst hr; subst hx
      have h := (OwnI.lit0 w).below (below_alloc _ (.cells #[.slice (some ⟨w.heap.size, 0, none⟩) 0 0] 22))
      exact ⟨h, fun p hp => by obtain rfl := Option.some.inj hp; simp; omega⟩
    | succ i => simp at hr
  · intro i j r s p q hij hr hs
    have h1 := (List.getElem?_eq_some_iff.1 hs).1
    simp at h1
    omega

set_option maxHeartbeats 1600000 in
theorem places_any (n k0 : Nat) (hn8 : n ≤ 8) (hk8 : k0 ≤ 8) (w : World) :
    Calls Try.prog 79 #[.int .i64 n, .int .i64 k0] w (RetII w (lvQ n k0)) := by
  have HL : Hid (∀ d, (lvQ n d).length ≤ 256) := fun d => Nat.le_trans (length_lvQ n d) (pow8 hn8)
  go_enter Try.func79, Try.ntmps79
  go_wp2
  go_loopw [5, 6, 8, 9, 10, 14, 17, 18, 19] (fun v _ _ _ _ i _ _ _ wr => ∃ (k n1 c1 : Nat) (a1 : Option Addr), k ≤ k0 ∧ i = .int .i64 k ∧ v = .slice a1 n1 c1 ∧ OwnII wr w.heap.size wr.heap.size a1 n1 c1 (lvQ n k) ∧ Below w.heap.size w wr) (fun _ _ _ _ _ i _ _ _ _ => k0 - (intOf i).toNat)
  case atStart => exact ⟨0, 1, 1, _, Nat.zero_le _, rfl, by simp, OwnII.lit1' w, (below_alloc _ _).alloc (by simp) _⟩
  case round =>
    obtain ⟨k, n1, c1, a1, hk, rfl, rfl, ho, hb⟩ := hrel
    by_cases hlt : k < k0
    · obtain ⟨wo, rfl⟩ : ∃ wo : World, wo = wr := ⟨_, rfl⟩
      have hn1 : n1 ≤ 256 := by have h1 := ho.len; have h2 := HL.out k; omega
      have HP : Hid (IIs wo a1 n1 c1 (lvQ n k)) := ho.iis (by omega) fun xs hx => by have := (rows_lvQ n k xs hx).2; omega
      have HRow : Hid (∀ xs ∈ lvQ n k, Inc n xs ∧ xs.length = k) := rows_lvQ n k
      have Hln : Hid ((lvQ n k).length = n1) := ho.len
      have Hnext : Hid ((lvF n (lvQ n k)).length ≤ 256) := HL.out (k + 1)
      clear ho
      go_wp2
      go_loopw [6, 8, 9, 10, 19] (fun v _ _ _ i wr => ∃ (j n2 c2 : Nat) (a2 : Option Addr), j ≤ n1 ∧ i = .int .i64 j ∧ v = .slice a2 n2 c2 ∧ OwnII wr wo.heap.size wr.heap.size a2 n2 c2 (lvF n ((lvQ n k).take j)) ∧ Below wo.heap.size wo wr) (fun _ _ _ _ i _ => n1 - (intOf i).toNat)
      case atStart => exact ⟨0, 0, 0, _, Nat.zero_le _, rfl, rfl, by simpa [lvF] using OwnII.start wo, below_alloc _ _⟩
      case round =>
        obtain ⟨j, n2, c2, a2, hj, rfl, rfl, ho2, hb2⟩ := hrel
        by_cases hlj : j < n1
        · obtain ⟨ab, ao, ra, rn, rc, xs, rfl, hx, hr, HX⟩ := (HP.out.below hb2).at hlj
          have hrow := HRow.out xs (List.mem_of_getElem? HX.out)
          have hrn : rn ≤ 8 := by have h1 := hr.2.1; have h2 := hrow.2; omega
          have HInc : Hid (Inc n xs) := hrow.1
          have HLn : Hid (xs.length = rn) := hr.2.1
          have HRr : Hid (SlI wo ra rn rc xs) := by
            obtain ⟨ab', ao', ra', rn', rc', xs', h1, h2, h3, h4⟩ := HP.out.at hlj
            obtain rfl : xs' = xs := by have e1 := h4.out; have e2 := HX.out; rw [e1] at e2; exact Option.some.inj e2
            simp only [Option.some.injEq, Addr.mk.injEq, and_true] at h1
            obtain ⟨rfl, rfl⟩ := h1
            have h5 := (hb2.cell (p := ⟨ab, ao + j, none⟩) (World.block_lt_of_cell? wo _ h2)).trans h2
            rw [hx] at h5
            simp only [Option.some.injEq, Value.slice.injEq] at h5
            obtain ⟨rfl, rfl, rfl⟩ := h5
            exact h3
          have Hb2 : Hid (Below wo.heap.size wo wr) := hb2
          have hsz2 := hb2.size
          have hn2 : n2 ≤ 256 := by have h1 := ho2.len; have h2 := lvF_take_le n (lvQ n k) j; have h3 := Hnext.out; omega
          obtain ⟨s, hs⟩ : ∃ s, s = frN xs := ⟨_, rfl⟩
          have HS : Hid (s = frN xs) := hs
          have hs1 : 1 ≤ s := by rw [hs]; exact frN_pos _
          clear hs
          have hhead : (0 < rn ∧ ∃ rb ro l tn, ra = some ⟨rb, ro, none⟩ ∧ wr.cell? ⟨rb, ro + l, none⟩ = some (.int .i64 ((tn : Nat) : Int)) ∧ (rn : Int) - 1 = (l : Int) ∧ l < rn ∧ (tn : Int) + 1 = (s : Int) ∧ tn ≤ n) ∨ (rn ≤ 0 ∧ Hid (s = 1)) := by
            rcases Nat.eq_zero_or_pos rn with h0 | h0
            · right
              refine ⟨by omega, ?_⟩
              have : xs = [] := List.eq_nil_of_length_eq_zero (by rw [HLn.out, h0])
              show _ = _
              rw [HS.out, this]; rfl
            · left
              obtain ⟨rb, ro, y, e1, hy, HY⟩ := hr.1.at (i := rn - 1) (by rw [HLn.out]; omega)
              have hy1 := HInc.out.2.1 y (List.mem_of_getElem? HY.out)
              have hfr : frN xs = y.toNat + 1 := by
                unfold frN
                rw [List.getLast?_eq_getElem?, HLn.out, HY.out]
              refine ⟨h0, rb, ro, rn - 1, y.toNat, e1, ?_, by omega, by omega, ?_, by omega⟩
              · rw [show ((y.toNat : Nat) : Int) = y by omega]; exact hy
              · rw [HS.out, hfr]; omega
          have hsn : s ≤ n + 1 := by
            rcases hhead with ⟨_, _, _, _, _, _, _, _, _, h1, h2⟩ | ⟨_, h1⟩
            · omega
            · rw [h1.out]; omega
          clear hr hrow
          rcases hhead with ⟨h0, rb, ro, l, tn, rfl, hcell, ehl, hlhn, es, htn⟩ | ⟨h0, hs1'⟩
          all_goals
            first
            | have hgt : decide (0 < rn) = true := decide_eq_true (by omega)
            | have hgt : decide (0 < rn) = false := decide_eq_false (by omega)
            go_wp2
            go_loopw [6, 10] (fun v x wr => ∃ (m n3 c3 : Nat) (a3 : Option Addr), m ≤ n + 1 - s ∧ x = .int .i64 ((s : Int) + (m : Int)) ∧ v = .slice a3 n3 c3 ∧ n3 ≤ 256 + m ∧ OwnII wr wo.heap.size wr.heap.size a3 n3 c3 (lvF n ((lvQ n k).take j) ++ findK one' xs s m) ∧ Below wo.heap.size wo wr) (fun _ x _ => n + 1 - (intOf x).toNat)
            case atStart => exact ⟨0, n2, c2, a2, Nat.zero_le _, by first | (rw [hs1'.out]; rfl) | go_num, rfl, by omega, by simpa [findK] using ho2, Hb2.out⟩
            case round =>
              obtain ⟨m, n3, c3, a3, hm, rfl, rfl, hn3, ho3, hb3⟩ := hrel
              by_cases hlm : m < n + 1 - s
              · have hgo : (s : Int) + (m : Int) ≤ (n : Int) := by omega
                have hK := slicesClone_any _ rn rc xs wr (HRr.out.below hb3)
                have hsz3 := hb3.size
                have HE : Hid (findK one' xs s (m + 1) = findK one' xs s m ++ [xs ++ [(s : Int) + (m : Int)]]) := rfl
                go_wp2_with fail
                refine hK.mono ?_
                rintro e w4 ⟨a4, n4, c4, rfl, ho4, hb4⟩
                clear hK
                have hn4 : n4 ≤ 8 := by have h1 := ho4.1; have h2 := HLn.out; omega
                go_wp2_with (at_builtin; refine wpList_appI rfl _ _ rfl wr.heap.size _ _ _ _ rfl ho4 _ rfl (by omega) hb4.size ?_)
                intro a5 c5 w5 h5 hb5
                have hb45 := hb4.trans hb5
                have ho35 := ho3.below hb45
                have hsz5 := hb45.size
                go_wp2_with (at_builtin; refine wpList_appII rfl _ _ rfl wo.heap.size _ _ _ _ _ _ rfl ho35 _ _ _ _ h5.ins (Nat.le_refl _) hsz3 _ rfl rfl (by omega) (by omega) (by omega) ?_)
                intro a6 c6 w6 g1 g2 _
                have hb6 := (hb3.trans (hb45.mono hsz3)).trans g2
                clear h5 hb5 hb45 ho35 hsz5 ho4 hb4 ho3
                go_wp2
                go_roundw
                case rel => exact ⟨m + 1, n3 + 1, c6, a6, by omega, by go_num, rfl, by omega, by rw [HE.out]; simpa only [List.append_assoc] using g1, hb6⟩
                case measure => simp [intOf]; omega
              · have hgo : ¬ ((s : Int) + (m : Int) ≤ (n : Int)) := by omega
                have HE : Hid (lvF n ((lvQ n k).take (j + 1)) = lvF n ((lvQ n k).take j) ++ findK one' xs s m) := by
                  show _ = _
                  rw [take_snoc HX.out, lvF_append, show m = n + 1 - s by omega, HS.out]
                  simp [lvF]
                go_wp2
                go_roundw
                case rel => exact ⟨j + 1, n3, c3, a3, by omega, by go_num, rfl, by rw [HE.out]; exact ho3, hb3⟩
                case measure => simp [intOf]; omega
        · have HE : Hid (lvQ n (k + 1) = lvF n ((lvQ n k).take j)) := by
            show lvF n (lvQ n k) = _
            rw [List.take_of_length_le]; rw [Hln.out]; omega
          have hb' : Below w.heap.size w wr := hb.trans (hb2.mono hb.size)
          have ho' : OwnII wr w.heap.size wr.heap.size a2 n2 c2 (lvQ n (k + 1)) := by rw [HE.out]; exact ho2.mono hb.size (Nat.le_refl _)
          go_wp2
          go_roundw
          case rel => exact ⟨k + 1, n2, c2, a2, by omega, by go_num, rfl, ho', hb'⟩
          case measure => simp [intOf]; omega
    · have hkN : k = k0 := by omega
      subst hkN
      go_wp2
      go_ret
      exact ⟨_, _, _, rfl, ho, hb⟩

end Go.Proofs.Ytjhlianledgiiaa
