/- All permutations of a length: the walks of PermsOf, of the program and of the reference, and that both lists are one. No condition. -/
import Derived.Test.YtjhlianledgiiaaF20
import Derived.Test.YtjhlianledgiiaaF19
import Derived.Test.YtjhlianledgiiaaF05
namespace Go.Proofs.Ytjhlianledgiiaa
open Go.RowKit

/-- For all numbers to k that the head lacks: what f makes of the head with that number. -/
def fillK (f : List Int → List (List Int)) (h : List Int) : Nat → List (List Int)
  | 0 => []
  | k + 1 => fillK f h k ++ (if ((k : Int) + 1) ∈ h then [] else f (h ++ [(k : Int) + 1]))
def fillP (N : Nat) : Nat → List Int → List (List Int)
  | 0, h => [h]
  | d + 1, h => fillK (fillP N d) h N
def one (h : List Int) : List (List Int) := [h]
/-- One level more: over the rows, each with all numbers that it lacks. -/
def lvE (N : Nat) : List (List Int) → List (List Int)
  | [] => []
  | h :: t => fillK one h N ++ lvE N t
def lv (N : Nat) : Nat → List (List Int)
  | 0 => [[]]
  | d + 1 => lvE N (lv N d)
theorem lvE_append (N : Nat) (a b : List (List Int)) : lvE N (a ++ b) = lvE N a ++ lvE N b := by
  induction a with
  | nil => rfl
  | cons x a ih => simp [lvE, ih]
theorem lvE_flat (N : Nat) (l : List (List Int)) : lvE N l = l.flatMap fun h => fillK one h N := by
  induction l with
  | nil => rfl
  | cons x l ih => simp [lvE, ih]
theorem fillK_flat (f : List Int → List (List Int)) (h : List Int) (k : Nat) : fillK f h k = (fillK one h k).flatMap f := by
  induction k with
  | zero => rfl
  | succ k ih =>
    simp only [fillK, List.flatMap_append, ← ih]
    congr 1
    split
    · rfl
    · simp [one]
theorem flatMap_flatMap' {α β γ : Type} (l : List α) (f : α → List β) (g : β → List γ) : (l.flatMap f).flatMap g = l.flatMap fun x => (f x).flatMap g := by
  induction l with
  | nil => rfl
  | cons x l ih => simp [List.flatMap_append, ih]
theorem lv_fill (N d : Nat) (j : Nat) : (lv N j).flatMap (fillP N d) = lv N (j + d) := by
  induction d generalizing j with
  | zero =>
    show (lv N j).flatMap (fun h => [h]) = _
    simp
  | succ d ih =>
    have h1 := ih (j + 1)
    rw [show j + 1 + d = j + (d + 1) by omega] at h1
    rw [← h1]
    show (lv N j).flatMap (fun h => fillK (fillP N d) h N) = (lvE N (lv N j)).flatMap (fillP N d)
    rw [lvE_flat, flatMap_flatMap']
    congr 1
    funext h
    exact fillK_flat _ _ _
theorem fill_lv (N d : Nat) : fillP N d [] = lv N d := by
  have h := lv_fill N d 0
  simpa [lv] using h
theorem length_fillK {f : List Int → List (List Int)} {h : List Int} {k m : Nat} (hf : ∀ x, (f x).length ≤ m) : (fillK f h k).length ≤ k * m := by
  induction k with
  | zero => simp [fillK]
  | succ k ih =>
    simp only [fillK, List.length_append, Nat.succ_mul]
    split
    · simp; omega
    · have := hf (h ++ [(k : Int) + 1]); omega
theorem length_fillP (N d : Nat) (h : List Int) : (fillP N d h).length ≤ N ^ d := by
  induction d generalizing h with
  | zero => simp [fillP]
  | succ d ih =>
    simp only [fillP, Nat.pow_succ]
    rw [Nat.mul_comm]
    exact length_fillK ih
theorem rows_fillK {f : List Int → List (List Int)} {h : List Int} {k m : Nat} (hf : ∀ x, x.length = h.length + 1 → ∀ r ∈ f x, r.length ≤ m) : ∀ r ∈ fillK f h k, r.length ≤ m := by
  induction k with
  | zero => simp [fillK]
  | succ k ih =>
    intro r hr
    simp only [fillK] at hr
    rcases List.mem_append.1 hr with hr | hr
    · exact ih r hr
    · split at hr
      · cases hr
      · exact hf _ (by simp) r hr
theorem rows_fillP (N d : Nat) (h : List Int) : ∀ r ∈ fillP N d h, r.length ≤ h.length + d := by
  induction d generalizing h with
  | zero => simp [fillP]
  | succ d ih =>
    refine rows_fillK fun x hx r hr => ?_
    have := ih x r hr
    omega
theorem length_lv (N d : Nat) : (lv N d).length ≤ N ^ d := by rw [← fill_lv]; exact length_fillP N d []
theorem rows_lv (N d : Nat) : ∀ r ∈ lv N d, r.length ≤ d := by
  intro r hr; rw [← fill_lv] at hr; have := rows_fillP N d [] r hr; simpa using this
theorem pow_le6 {N d : Nat} (hN : N ≤ 6) (hd : d ≤ 6) : N ^ d ≤ 46656 :=
  Nat.le_trans (Nat.pow_le_pow_left hN d) (Nat.le_trans (Nat.pow_le_pow_right (by omega) hd) (by decide))

def permsP (n : Int) : List (List Int) := if 0 ≤ n ∧ n ≤ 6 then lv n.toNat n.toNat else []
theorem bound_permsP (n : Int) : totL (permsP n) ≤ 2097152 ∧ (permsP n).length ≤ 2097152 := by
  unfold permsP; split
  · rename_i h
    refine bound_rows (k := 46656) (m := 6) (Nat.le_trans (length_lv _ _) (pow_le6 (by omega) (by omega))) (fun r hr => ?_) (by omega) (by omega)
    have := rows_lv _ _ r hr
    omega
  · simp [totL]

set_option maxHeartbeats 1000000 in
theorem l2Fill_any (N : Nat) (hN : N ≤ 6) (d : Nat) : ∀ (hp : Addr) (hn hc : Nat) (head : List Int) (oa : Option Addr) (on oc : Nat) (xss : List (List Int)) (w : World) (lo mid hi : Nat),
    OwnIn w mid w.heap.size (some hp) hn hc head → OwnII w lo hi oa on oc xss → (hi ≤ mid ∨ on = 0) → lo ≤ mid → hi ≤ w.heap.size → lo ≤ w.heap.size → hn + d = N → Hid (on + (fillP N d head).length ≤ 100000) →
    Calls Try.prog 108 #[.int .i64 N, .slice (some hp) hn hc, .slice oa on oc] w fun e w' =>
      ∃ a' n' c', e = .returned (.slice a' n' c') ∧ OwnII w' lo w'.heap.size a' n' c' (xss ++ fillP N d head) ∧ Below lo w w' ∧ Keep w w' ∧ w.heap.size ≤ w'.heap.size := by
  induction d with
  | zero =>
    intro hp hn hc head oa on oc xss w lo mid hi hh ho hmid hlm hhi hlo hnd hT
    have HE : Hid (fillP N 0 head = [head]) := rfl
    have hnN : hn = N := by omega
    subst hnN
    have h4 : on < 4194304 := by have h1 := hT.out; rw [HE.out] at h1; simp at h1; omega
    go_enter Try.func108, Try.ntmps108
    go_wp2_with (at_builtin; refine wpList_appII' rfl _ _ rfl lo hi mid _ _ _ _ rfl ho _ _ _ _ hh hmid hlm _ rfl rfl h4 hlo hhi ?_)
    intro a' c' w1 h1 h2 h3 h5
    go_wp2
    go_ret
    exact ⟨_, _, _, rfl, by rw [HE.out]; exact h1, h2, h3, h5⟩
  | succ d ih =>
    intro hp hn hc head oa on oc xss w lo mid hi hh ho hmid hlm hhi hlo hnd hT
    have HE : Hid (fillP N (d + 1) head = fillK (fillP N d) head N) := rfl
    have hne : ((hn : Int) == (N : Int)) = false := by rw [beq_eq_false_iff_ne]; omega
    have HL : Hid (head.length = hn) := hh.1.1
    go_enter Try.func108, Try.ntmps108
    go_wp2
    go_loopw [2, 7] (fun v i wr => ∃ (k kk c hi' : Nat) (a : Option Addr), k ≤ N ∧ i = .int .i64 ((k : Int) + 1) ∧ v = .slice a kk c ∧ OwnII wr lo hi' a kk c (xss ++ fillK (fillP N d) head k) ∧ hi' ≤ wr.heap.size ∧ lo ≤ wr.heap.size ∧ Hid (OwnIn wr mid wr.heap.size (some hp) hn hc head) ∧ Below lo w wr ∧ Keep w wr ∧ w.heap.size ≤ wr.heap.size) (fun _ i _ => N + 1 - (intOf i).toNat)
    case atStart => exact ⟨0, on, oc, hi, oa, Nat.zero_le _, by go_num, rfl, by simpa [fillK] using ho, hhi, hlo, hh, Below.refl _ _, Keep.refl _, Nat.le_refl _⟩
    case round =>
      obtain ⟨k, kk, c, hi', a, hk, rfl, rfl, ho1, hhi1, hlo1, hh1, hb1, hk1, hs1⟩ := hrel
      by_cases hlt : k < N
      · have hgo : (k : Int) + 1 ≤ (N : Int) := by omega
        by_cases hm : ((k : Int) + 1) ∈ head
        · have hx : Hid (fillK (fillP N d) head (k + 1) = fillK (fillP N d) head k) := by
            show _ = _; simp only [fillK]; rw [if_pos hm, List.append_nil]
          have hC := l2Has_any (some hp) hn hc head ((k : Int) + 1) true wr hh1.out.1.ints HL.out (by omega) (decide_eq_true hm).symm
          clear hm
          go_wp2_with fail
          refine hC.mono ?_
          rintro e w1 ⟨rfl, hw1⟩
          obtain rfl : wr = w1 := hw1.symm
          go_wp2
          go_roundw
          case rel => exact ⟨k + 1, kk, c, hi', a, by omega, by go_num, rfl, by rw [hx.out]; exact ho1, hhi1, hlo1, hh1, hb1, hk1, hs1⟩
          case measure => simp [intOf]; omega
        · have hx : Hid (fillK (fillP N d) head (k + 1) = fillK (fillP N d) head k ++ fillP N d (head ++ [(k : Int) + 1])) := by
            show _ = _; simp only [fillK]; rw [if_neg hm]
          have hC := l2Has_any (some hp) hn hc head ((k : Int) + 1) false wr hh1.out.1.ints HL.out (by omega) (decide_eq_false hm).symm
          clear hm
          have hT' : Hid (kk + (fillP N d (head ++ [(k : Int) + 1])).length ≤ 100000) := by
            have h1 := ho1.len
            have h2 := hT.out
            have h3 : ∀ j, k + 1 ≤ j → (fillK (fillP N d) head (k + 1)).length ≤ (fillK (fillP N d) head j).length := by
              intro j hj
              induction j with
              | zero => omega
              | succ j ihj =>
                rcases Nat.lt_or_ge j (k + 1) with hj2 | hj2
                · obtain rfl : j = k := by omega
                  exact Nat.le_refl _
                · have := ihj hj2
                  simp only [fillK, List.length_append] at this ⊢
                  omega
            have h4 := h3 N hlt
            rw [hx.out] at h4
            rw [HE.out] at h2
            have h5 := ho.len
            simp only [List.length_append] at h1 h4
            show kk + _ ≤ _
            omega
          have HS : Hid (SlI wr (some hp) hn hc head) := hh1.out.sl (by omega)
          go_wp2_with fail
          refine hC.mono ?_
          rintro e w1 ⟨rfl, hw1⟩
          obtain rfl : wr = w1 := hw1.symm
          go_wp2_with (at_builtin; refine wpList_append_all rfl _ _ rfl wr.heap.size _ _ _ _ rfl (OwnI.lit0 wr) hp hn hc head rfl ⟨HS.out.1.alloc _, HS.out.2⟩ (by omega) (by simp) ?_)
          intro a2 c2 w2 h2 h2n _ h2b
          have hb2 := (below_alloc wr (.cells #[] 3)).trans h2b
          go_wp2_with (at_builtin; refine wpList_appI rfl _ _ rfl wr.heap.size _ _ _ _ rfl h2 _ rfl (by omega) hb2.size ?_)
          intro a3 c3 w3 h3 h3b
          have hb3 := hb2.trans h3b
          obtain ⟨g3, rfl, _, _⟩ := h3.head (by omega)
          have hB3 : Hid (Below wr.heap.size wr w3) := hb3
          have hsz3 := hb3.size
          have hI := ih ⟨g3, 0, none⟩ (hn + 1) c3 (head ++ [(k : Int) + 1]) a kk c _ w3 lo wr.heap.size hi' (by simpa using h3.ins) (ho1.below hb3) (.inl hhi1) hlo1 (by omega) (by omega) (by omega) hT'
          clear h2 h2n h2b hb2 h3 h3b hb3 HS hC
          go_wp2_with fail
          refine hI.mono ?_
          rintro e w4 ⟨a4, n4, c4, rfl, ho4, hb4, hk4, hs4⟩
          clear hI
          have hkk : Keep wr w4 := (Below.keep hB3.out).trans hk4
          have hbb : Below lo w w4 := (hb1.trans (hB3.out.mono hlo1)).trans hb4
          go_wp2
          go_roundw
          case rel =>
            refine ⟨k + 1, n4, c4, w4.heap.size, a4, by omega, by go_num, rfl, ?_, Nat.le_refl _, by omega, ?_, hbb, hk1.trans hkk, by omega⟩
            · rw [hx.out, ← List.append_assoc]; exact ho4
            · exact (hkk.ins hh1.out).mono (Nat.le_refl _) (by omega)
          case measure => simp [intOf]; omega
      · have hkN : k = N := by omega
        subst hkN
        rw [← HE.out] at ho1
        have hgo : ¬ ((k : Int) + 1 ≤ (k : Int)) := by omega
        go_wp2
        go_ret
        exact ⟨_, _, _, rfl, ho1.mono (Nat.le_refl _) hhi1, hb1, hk1, hs1⟩

theorem OwnII.lit1 (w : World) : OwnII ((w.alloc (.cells #[] 3)).alloc (.cells #[.slice (some ⟨w.heap.size, 0, none⟩) 0 0] 22)) w.heap.size ((w.alloc (.cells #[] 3)).alloc (.cells #[.slice (some ⟨w.heap.size, 0, none⟩) 0 0] 22)).heap.size (some ⟨w.heap.size + 1, 0, none⟩) 1 1 [[]] := by
  refine ⟨[(some ⟨w.heap.size, 0, none⟩, 0, 0)], rfl, rfl, ?_, ?_, ?_, ?_⟩
  · have h := World.ownsRow_lit (e := 22) (size := 1) (w.alloc (.cells #[] 3)) #[.slice (some ⟨w.heap.size, 0, none⟩) 0 0] 1 (Nat.le_refl _) (by unfold maxLen; omega) rfl
    have h2 := own_mono (B' := w.heap.size) h (by simp)
    simpa [sl3] using h2
  · intro p hp
    obtain rfl := Option.some.inj hp
    simp
  · intro i r xs hr hx
    cases i with
    | zero =>
      simp at hr hx
      subst hr; subst hx
      have h := (OwnI.lit0 w).below (below_alloc _ (.cells #[.slice (some ⟨w.heap.size, 0, none⟩) 0 0] 22))
      exact ⟨h, fun p hp => by obtain rfl := Option.some.inj hp; simp; omega⟩
    | succ i => simp at hr
  · intro i j r s p q hij hr hs
    have h1 := (List.getElem?_eq_some_iff.1 hs).1
    simp at h1
    omega
theorem lvE_take_le (N : Nat) (l : List (List Int)) (j : Nat) : (lvE N (l.take j)).length ≤ (lvE N l).length := by
  have h := lvE_append N (l.take j) (l.drop j)
  rw [List.take_append_drop] at h
  rw [h, List.length_append]; omega
theorem length_fillOne (h : List Int) (k : Nat) : (fillK one h k).length ≤ k := by
  have := length_fillK (f := one) (h := h) (k := k) (m := 1) (fun x => Nat.le_refl _)
  omega

set_option maxHeartbeats 1600000 in
theorem perms_any (N : Nat) (hN : N ≤ 6) (w : World) :
    Calls Try.prog 107 #[.int .i64 N] w (RetII w (lv N N)) := by
  have hL : ∀ d, d ≤ 6 → (lv N d).length ≤ 46656 := fun d hd => Nat.le_trans (length_lv N d) (pow_le6 hN hd)
  have HL : Hid (∀ d, d ≤ 6 → (lv N d).length ≤ 46656) := hL
  clear hL
  go_enter Try.func107, Try.ntmps107
  go_wp2
  go_loopw [3, 4, 6, 7, 11, 14, 15, 16] (fun v _ _ _ i _ _ _ wr => ∃ (k n1 c1 : Nat) (a1 : Option Addr), k ≤ N ∧ i = .int .i64 k ∧ v = .slice a1 n1 c1 ∧ OwnII wr w.heap.size wr.heap.size a1 n1 c1 (lv N k) ∧ Below w.heap.size w wr) (fun _ _ _ _ i _ _ _ _ => N - (intOf i).toNat)
  case atStart => exact ⟨0, 1, 1, _, Nat.zero_le _, rfl, by simp, OwnII.lit1 w, (below_alloc _ _).alloc (by simp) _⟩
  case round =>
    obtain ⟨k, n1, c1, a1, hk, rfl, rfl, ho, hb⟩ := hrel
    by_cases hlt : k < N
    · obtain ⟨wo, rfl⟩ : ∃ wo : World, wo = wr := ⟨_, rfl⟩
      have hn1 : n1 ≤ 46656 := by have h1 := ho.len; have h2 := HL.out k (by omega); omega
      have HP : Hid (IIs wo a1 n1 c1 (lv N k)) := ho.iis (by omega) fun xs hx => by have := rows_lv N k xs hx; omega
      have Hln : Hid ((lv N k).length = n1) := ho.len
      have Hnext : Hid ((lvE N (lv N k)).length ≤ 46656) := HL.out (k + 1) (by omega)
      clear ho
      go_wp2
      go_loopw [4, 6, 7, 16] (fun v _ _ i wr => ∃ (j n2 c2 : Nat) (a2 : Option Addr), j ≤ n1 ∧ i = .int .i64 j ∧ v = .slice a2 n2 c2 ∧ OwnII wr wo.heap.size wr.heap.size a2 n2 c2 (lvE N ((lv N k).take j)) ∧ Below wo.heap.size wo wr) (fun _ _ _ i _ => n1 - (intOf i).toNat)
      case atStart => exact ⟨0, 0, 0, _, Nat.zero_le _, rfl, rfl, by simpa [lvE] using OwnII.start wo, below_alloc _ _⟩
      case round =>
        obtain ⟨j, n2, c2, a2, hj, rfl, rfl, ho2, hb2⟩ := hrel
        by_cases hlj : j < n1
        · obtain ⟨ab, ao, ra, rn, rc, xs, rfl, hx, hr, HX⟩ := (HP.out.below hb2).at hlj
          have hrn := hr.2.2.1
          have HR : Hid (SlI wr ra rn rc xs) := hr
          have HRr : Hid (SlI wo ra rn rc xs) := by
            obtain ⟨ab', ao', ra', rn', rc', xs', h1, h2, h3, h4⟩ := HP.out.at hlj
            obtain rfl : xs' = xs := by have e1 := h4.out; have e2 := HX.out; rw [e1] at e2; exact Option.some.inj e2
            simp only [Option.some.injEq, Addr.mk.injEq, and_true] at h1
            obtain ⟨rfl, rfl⟩ := h1
            have h5 := (hb2.cell (p := ⟨ab, ao + j, none⟩) (World.block_lt_of_cell? wo _ h2)).trans h2
            rw [hx] at h5
            simp only [Option.some.injEq, Value.slice.injEq] at h5
            obtain ⟨rfl, rfl, rfl⟩ := h5
            exact h3
          have Hb2 : Hid (Below wo.heap.size wo wr) := hb2
          have hsz2 := hb2.size
          have hn2 : n2 ≤ 46656 := by have h1 := ho2.len; have h2 := lvE_take_le N (lv N k) j; have h3 := Hnext.out; omega
          clear hr
          go_wp2
          go_loopw [4, 7] (fun v i wr => ∃ (m n3 c3 : Nat) (a3 : Option Addr), m ≤ N ∧ i = .int .i64 ((m : Int) + 1) ∧ v = .slice a3 n3 c3 ∧ n3 ≤ 46656 + m ∧ OwnII wr wo.heap.size wr.heap.size a3 n3 c3 (lvE N ((lv N k).take j) ++ fillK one xs m) ∧ Below wo.heap.size wo wr) (fun _ i _ => N + 1 - (intOf i).toNat)
          case atStart => exact ⟨0, n2, c2, a2, Nat.zero_le _, by go_num, rfl, by omega, by simpa [fillK] using ho2, Hb2.out⟩
          case round =>
            obtain ⟨m, n3, c3, a3, hm, rfl, rfl, hn3, ho3, hb3⟩ := hrel
            by_cases hlm : m < N
            · have hgo : (m : Int) + 1 ≤ (N : Int) := by omega
              have hR3 : SlI wr ra rn rc xs := HRr.out.below hb3
              have hsz3 := hb3.size
              by_cases hmem : ((m : Int) + 1) ∈ xs
              · have HE : Hid (fillK one xs (m + 1) = fillK one xs m) := by
                  show _ = _; simp only [fillK]; rw [if_pos hmem, List.append_nil]
                have hC := slicesContains_any ra rn rc xs ((m : Int) + 1) true wr hR3 (decide_eq_true hmem).symm
                clear hmem hR3
                go_wp2_with fail
                refine hC.mono ?_
                rintro e w1 ⟨rfl, hw1⟩
                obtain rfl : wr = w1 := hw1.symm
                clear hC
                go_wp2
                go_roundw
                case rel => exact ⟨m + 1, n3, c3, a3, by omega, by go_num, rfl, by omega, by rw [HE.out]; exact ho3, hb3⟩
                case measure => simp [intOf]; omega
              · have HE : Hid (fillK one xs (m + 1) = fillK one xs m ++ [xs ++ [(m : Int) + 1]]) := by
                  show _ = _; simp only [fillK]; rw [if_neg hmem]; rfl
                have hC := slicesContains_any ra rn rc xs ((m : Int) + 1) false wr hR3 (decide_eq_false hmem).symm
                clear hmem
                have hK := slicesClone_any ra rn rc xs wr hR3
                clear hR3
                go_wp2_with fail
                refine hC.mono ?_
                rintro e w1 ⟨rfl, hw1⟩
                obtain rfl : wr = w1 := hw1.symm
                clear hC
                go_wp2_with fail
                refine hK.mono ?_
                rintro e w4 ⟨a4, n4, c4, rfl, ho4, hb4⟩
                clear hK
                have hn4 : n4 ≤ 2097152 := by have h1 := ho4.1; have h2 := HR.out.2.1; omega
                go_wp2_with (at_builtin; refine wpList_appI rfl _ _ rfl wr.heap.size _ _ _ _ rfl ho4 _ rfl (by omega) hb4.size ?_)
                intro a5 c5 w5 h5 hb5
                have hb45 := hb4.trans hb5
                have ho35 := ho3.below hb45
                have hsz5 := hb45.size
                go_wp2_with (at_builtin; refine wpList_appII rfl _ _ rfl wo.heap.size _ _ _ _ _ _ rfl ho35 _ _ _ _ h5.ins (Nat.le_refl _) hsz3 _ rfl rfl (by omega) (by omega) (by omega) ?_)
                intro a6 c6 w6 g1 g2 _
                have hb6 := (hb3.trans (hb45.mono hsz3)).trans g2
                clear h5 hb5 hb45 ho35 hsz5 ho4 hb4 ho3
                go_wp2
                go_roundw
                case rel => exact ⟨m + 1, n3 + 1, c6, a6, by omega, by go_num, rfl, by omega, by rw [HE.out]; simpa only [List.append_assoc] using g1, hb6⟩
                case measure => simp [intOf]; omega
            · have hgo : ¬ ((m : Int) + 1 ≤ (N : Int)) := by omega
              have HE : Hid (lvE N ((lv N k).take (j + 1)) = lvE N ((lv N k).take j) ++ fillK one xs m) := by
                show _ = _
                rw [take_snoc HX.out, lvE_append, show m = N by omega]
                simp [lvE]
              go_wp2
              go_roundw
              case rel => exact ⟨j + 1, n3, c3, a3, by omega, by go_num, rfl, by rw [HE.out]; exact ho3, hb3⟩
              case measure => simp [intOf]; omega
        · have HE : Hid (lv N (k + 1) = lvE N ((lv N k).take j)) := by
            show lvE N (lv N k) = _
            rw [List.take_of_length_le]; rw [Hln.out]; omega
          have hb' : Below w.heap.size w wr := hb.trans (hb2.mono hb.size)
          have ho' : OwnII wr w.heap.size wr.heap.size a2 n2 c2 (lv N (k + 1)) := by rw [HE.out]; exact ho2.mono hb.size (Nat.le_refl _)
          go_wp2
          go_roundw
          case rel => exact ⟨k + 1, n2, c2, a2, by omega, by go_num, rfl, ho', hb'⟩
          case measure => simp [intOf]; omega
    · have hkN : k = N := by omega
      subst hkN
      go_wp2
      go_ret
      exact ⟨_, _, _, rfl, ho, hb⟩

set_option maxHeartbeats 400000 in
theorem impl_PermsOf (n : Int) (w : World) (_hn : (Lit.int .i64 n).wf = true) :
    Calls Try.prog 61 #[.int .i64 n] w (RetII w (permsP n)) := by
  by_cases h1 : n < 0
  · have e : permsP n = [] := if_neg (by omega)
    rw [e]; clear e
    go_enter Try.func61, Try.ntmps61
    go_wp2
    go_ret
    exact RetII.nil w
  · by_cases h2 : 6 < n
    · have e : permsP n = [] := if_neg (by omega)
      rw [e]; clear e
      go_enter Try.func61, Try.ntmps61
      go_wp2
      go_ret
      exact RetII.nil w
    · obtain ⟨N, rfl⟩ : ∃ N : Nat, n = (N : Int) := ⟨n.toNat, by omega⟩
      have e : permsP (N : Int) = lv N N := by unfold permsP; rw [if_pos (by omega)]; rfl
      rw [e]; clear e
      go_enter Try.func61, Try.ntmps61
      go_wp2_with fail
      refine (perms_any N (by omega) w).mono ?_
      rintro e w1 ⟨a1, n1, c1, rfl, ho1, hb1⟩
      go_wp2
      go_ret
      exact ⟨_, _, _, rfl, ho1, hb1⟩

set_option maxHeartbeats 400000 in
theorem spec_PermsOf (n : Int) (w : World) (_hn : (Lit.int .i64 n).wf = true) :
    Calls Try.prog 62 #[.int .i64 n] w (RetII w (permsP n)) := by
  by_cases h : 0 ≤ n ∧ n ≤ 6
  · obtain ⟨N, rfl⟩ : ∃ N : Nat, n = (N : Int) := ⟨n.toNat, by omega⟩
    have e : permsP (N : Int) = [] ++ fillP N N [] := by unfold permsP; rw [if_pos h, fill_lv]; rfl
    have hC := l1In_any (N : Int) 0 6 true (decide_eq_true h).symm w
    have hN : N ≤ 6 := by omega
    have HT : Hid (0 + (fillP N N []).length ≤ 100000) := by
      have h1 := length_fillP N N []
      have h2 := pow_le6 hN hN
      show _ ≤ _
      omega
    rw [e]; clear e h
    have hI := l2Fill_any N hN N ⟨w.heap.size, 0, none⟩ 0 0 [] (some ⟨(w.alloc (.cells #[] 3)).heap.size, 0, none⟩) 0 0 [] ((w.alloc (.cells #[] 3)).alloc (.cells #[] 22)) w.heap.size w.heap.size (w.heap.size + 2)
      ⟨(OwnI.lit0 w).below (below_alloc _ _), fun p hp => by obtain rfl := Option.some.inj hp; simp; omega⟩
      ((OwnII.lit0 (w.alloc (.cells #[] 3))).mono (lo' := w.heap.size) (hi' := w.heap.size + 2) (by simp) (by simp)) (.inr rfl) (Nat.le_refl _) (by simp) (by simp; omega) (by omega) HT
    go_enter Try.func62, Try.ntmps62
    go_wp2_with fail
    refine hC.mono ?_
    rintro e w1 ⟨rfl, hw1⟩
    obtain rfl : w = w1 := hw1.symm
    clear hC
    go_wp2_with fail
    refine Calls.mono (by simpa using hI) ?_
    rintro e w1 ⟨a1, n1, c1, rfl, ho1, hb1, _, _⟩
    clear hI
    go_wp2
    go_ret
    exact ⟨_, _, _, rfl, ho1, ((below_alloc w _).trans ((below_alloc _ _).mono (by simp))).trans hb1⟩
  · have e : permsP n = [] := if_neg h
    have hC := l1In_any n 0 6 false (decide_eq_false h).symm w
    rw [e]; clear e h
    go_enter Try.func62, Try.ntmps62
    go_wp2_with fail
    refine hC.mono ?_
    rintro e w1 ⟨rfl, hw1⟩
    obtain rfl : w = w1 := hw1.symm
    clear hC
    go_wp2
    go_ret
    exact ⟨_, _, _, rfl, OwnII.start w, below_alloc _ _⟩
end Go.Proofs.Ytjhlianledgiiaa
