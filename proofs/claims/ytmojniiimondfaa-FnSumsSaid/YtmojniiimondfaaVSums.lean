/- One text of several, for a claim has at most sixty files. The comparisons of the laws: sameInts, sameLists, straight, hasList. No condition. The draws of permutations. Condition: the code is at most 2^20 bytes. Permutations in plain lists: the inverse, and what the text reads. No condition. The draws of the symmetries. Condition: the code is at most 2^20 bytes. Sums in plain lists: the parts are joined to the permutation again; the parts of a sum. No condition. The draws of the sums. Condition: the code is at most 2^20 bytes. The walk of the law FnSums: it returns true, and writes to nothing that was there. No condition. -/
import Derived.Test.YtmojniiimondfaaF05
import Derived.Test.YtmojniiimondfaaII
import Derived.Test.YtmojniiimondfaaD04
import Derived.Test.YtmojniiimondfaaF17
import Derived.Test.YtmojniiimondfaaF03
import Derived.Test.YtmojniiimondfaaF23
import Derived.Test.YtmojniiimondfaaF33
import Derived.Test.YtmojniiimondfaaF41
import Derived.Test.YtmojniiimondfaaF42
import Derived.Test.YtmojniiimondfaaD03
import Derived.Test.YtmojniiimondfaaF24
import Derived.Test.YtmojniiimondfaaF40
namespace Go.Proofs.Ytmojniiimondfaa
open Go.RowKit

set_option maxHeartbeats 400000 in
theorem sameIntsQ_any (a b : Option Addr) (n m c d : Nat) (xs ys : List Int) (w : World) (ha : Ints w a xs) (hb : Ints w b ys) (hn : xs.length = n) (hm : ys.length = m) (_hnb : n ≤ 2097152) (_hmb : m ≤ 2097152) :
    Calls Try.prog 28 #[.slice a n c, .slice b m d] w fun e w' => e = .returned (.bool (decide (xs = ys))) ∧ Quiet w w' := by
  have HN := Lib.hid hn; clear hn
  have HM := Lib.hid hm; clear hm
  by_cases hnm : n = m
  · subst hnm
    go_enter Try.func28, Try.ntmps28
    go_wp2
    go_loopw [5] (fun i wr => ∃ k : Nat, k ≤ n ∧ i = .int .i64 k ∧ Hid (xs.take k = ys.take k) ∧ ∃ q, wr = w.drewN q) (fun i _ => n - (intOf i).toNat)
    case atStart => exact ⟨0, Nat.zero_le _, rfl, by simp [Hid], 0, rfl⟩
    case round =>
      obtain ⟨k, hk, rfl, ht, q, rfl⟩ := hrel
      by_cases hlt : k < n
      · obtain ⟨ab, ao, x, rfl, hx, HX⟩ := ha.at (i := k) (by rw [HN.out]; exact hlt)
        obtain ⟨bb, bo, y, rfl, hy, HY⟩ := hb.at (i := k) (by rw [HM.out]; exact hlt)
        go_wp2
        go_quiet (fail)
        by_cases hxy : x = y
        · have ht' : Hid (xs.take (k + 1) = ys.take (k + 1)) := take_eq_succ ht.out HX.out HY.out hxy
          go_wp2
          go_roundw
          case rel => exact ⟨k + 1, by omega, by go_num, ht', _, rfl⟩
          case measure => simp [intOf]; omega
        · have hf : Hid (xs ≠ ys) := fun h => hxy (by have h1 := HX.out; have h2 := HY.out; rw [h] at h1; rw [h1] at h2; exact Option.some.inj h2)
          go_wp2
          go_ret
          exact ⟨ret_bool (decide_eq_false hf.out).symm, ((Quiet.refl _).drewN _).drewN _⟩
      · have hf : Hid (xs = ys) := by
          have e1 := HN.out; have e2 := HM.out; have e3 := ht.out
          have : k = n := by omega
          subst this
          rwa [List.take_of_length_le (by omega), List.take_of_length_le (by omega)] at e3
        go_wp2
        go_ret
        exact ⟨ret_bool (decide_eq_true hf.out).symm, (Quiet.refl _).drewN _⟩
  · have hf : Hid (xs ≠ ys) := fun h => hnm (by rw [← HN.out, ← HM.out, h])
    go_enter Try.func28, Try.ntmps28
    go_wp2
    go_ret
    exact ⟨ret_bool (decide_eq_false hf.out).symm, Quiet.refl _⟩

theorem sameInts_any (a b : Option Addr) (n m c d : Nat) (xs ys : List Int) (w : World) (ha : SlI w a n c xs) (hb : SlI w b m d ys) :
    Calls Try.prog 28 #[.slice a n c, .slice b m d] w (RetV w (.bool (decide (xs = ys)))) :=
  (sameIntsQ_any a b n m c d xs ys w ha.1 hb.1 ha.2.1 hb.2.1 ha.2.2.1 hb.2.2.1).mono fun _ _ h => retV_quiet h
theorem sameInts_same (a b : Option Addr) (n m c d : Nat) (xs : List Int) (w : World) (ha : SlI w a n c xs) (hb : SlI w b m d xs) :
    Calls Try.prog 28 #[.slice a n c, .slice b m d] w (RetV w (.bool true)) := by
  have h := sameInts_any a b n m c d xs xs w ha hb
  rwa [decide_eq_true rfl] at h

set_option maxHeartbeats 400000 in
theorem sameLists_same (a b : Option Addr) (n m c d : Nat) (xss : List (List Int)) (w : World) (ha : IIs w a n c xss) (hb : IIs w b m d xss) :
    Calls Try.prog 33 #[.slice a n c, .slice b m d] w (RetV w (.bool true)) := by
  obtain rfl : n = m := by rw [← ha.2.1, hb.2.1]
  have hnb := ha.2.2.1
  have Q0 : Calls Try.prog 33 #[.slice a n c, .slice b n d] w (fun e w' => e = .returned (.bool true) ∧ Quiet w w') := by
    go_enter Try.func33, Try.ntmps33
    go_wp2
    go_loopw [5] (fun i wr => ∃ k : Nat, k ≤ n ∧ i = .int .i64 k ∧ Quiet w wr) (fun i _ => n - (intOf i).toNat)
    case atStart => exact ⟨0, Nat.zero_le _, rfl, Quiet.refl _⟩
    case round =>
      obtain ⟨k, hk, rfl, hq⟩ := hrel
      by_cases hlt : k < n
      · obtain ⟨ab, ao, ra, rn, rc, xs, rfl, hx, hr, HX⟩ := (ha.quiet hq).at hlt
        obtain ⟨bb, bo, sa, sn, sc, ys, rfl, hy, hs, HY⟩ := (hb.quiet hq).at hlt
        obtain rfl : xs = ys := by have h1 := HX.out; have h2 := HY.out; rw [h1] at h2; exact Option.some.inj h2
        have c1 : ∀ q, Calls Try.prog 28 #[.slice ra rn rc, .slice sa sn sc] (wr.drewN q) (fun e w' => e = .returned (.bool true) ∧ ∃ m, w' = wr.drewN m) := fun q => (sameIntsQ_any ra sa rn sn rc sc xs xs (wr.drewN q) (hr.1.drewN q) (hs.1.drewN q) hr.2.1 hs.2.1 hr.2.2.1 hs.2.2.1).mono fun e w' h => ⟨by rw [h.1, decide_eq_true rfl], ((Quiet.refl wr).drewN q).trans h.2⟩
        clear hr hs
        go_wp2
        go_quiet ((go_at_call 28; exact c1 _))
        go_wp2
        go_roundw
        case rel => exact ⟨k + 1, by omega, by go_num, hq.drewN _⟩
        case measure => simp [intOf]; omega
      · go_wp2
        go_ret
        exact ⟨rfl, hq⟩
  exact Q0.mono fun e w' h => retV_quiet h

end Go.Proofs.Ytmojniiimondfaa
namespace Go.Proofs.Ytmojniiimondfaa
open Go.RowKit

/-- A list given back by a draw. -/
def RetDI (w : World) (m : Nat) (e : Ending) (w' : World) : Prop := ∃ g n c xs, e = .returned (.slice (some ⟨g, 0, none⟩) n c) ∧ n ≤ m ∧ OwnI w' w.heap.size (some ⟨g, 0, none⟩) n c xs ∧ Below w.heap.size w w'
/-- Two lists given back by a draw. -/
def RetDII (w : World) (m : Nat) (e : Ending) (w' : World) : Prop := ∃ g n c xs g' n' c' ys, e = .returned (.tuple #[.slice (some ⟨g, 0, none⟩) n c, .slice (some ⟨g', 0, none⟩) n' c']) ∧ n ≤ m ∧ n' ≤ m ∧ OwnI w' w.heap.size (some ⟨g, 0, none⟩) n c xs ∧ OwnI w' w.heap.size (some ⟨g', 0, none⟩) n' c' ys ∧ Below w.heap.size w w'

/-- An integer given back by a draw. -/
def RetDN (w : World) (lo hi : Int) (e : Ending) (w' : World) : Prop := ∃ x : Int, e = .returned (.int .i64 x) ∧ lo ≤ x ∧ x ≤ hi ∧ Below w.heap.size w w'
end Go.Proofs.Ytmojniiimondfaa
namespace Go.Proofs.Ytmojniiimondfaa
open Go.RowKit

/-- As many numbers as there are places, each but once: all of them. -/
theorem pig : ∀ (n : Nat) (l : List Int), l.Nodup → (∀ x ∈ l, 1 ≤ x ∧ x ≤ (n : Int)) → l.length ≤ n ∧ (l.length = n → ∀ v : Int, 1 ≤ v → v ≤ (n : Int) → v ∈ l)
  | 0, l, _, hb => by
    cases l with
    | nil => exact ⟨by simp, fun _ v h1 h2 => by omega⟩
    | cons x xs => have := hb x (by simp); omega
  | n + 1, l, hn, hb => by
    by_cases hm : ((n : Int) + 1) ∈ l
    · have hl := List.length_erase_of_mem hm
      have hpos : 0 < l.length := List.length_pos_of_mem hm
      have h2 : ∀ x ∈ l.erase ((n : Int) + 1), 1 ≤ x ∧ x ≤ (n : Int) := fun x hx => by
        have h3 := (hn.mem_erase_iff).1 hx
        have h4 := hb x h3.2
        have h5 := h3.1
        omega
      obtain ⟨h3, h4⟩ := pig n _ (hn.erase _) h2
      refine ⟨by omega, fun he v h5 h6 => ?_⟩
      by_cases hv : v = (n : Int) + 1
      · rw [hv]; exact hm
      · exact ((hn.mem_erase_iff).1 (h4 (by omega) v h5 (by omega))).2
    · have h2 : ∀ x ∈ l, 1 ≤ x ∧ x ≤ (n : Int) := fun x hx => by
        have h4 := hb x hx
        have h5 : x ≠ (n : Int) + 1 := fun e => hm (e ▸ hx)
        omega
      obtain ⟨h3, h4⟩ := pig n l hn h2
      exact ⟨by omega, fun he => by omega⟩
theorem perm_surj {xs : List Int} (h : IsPermL xs) {v : Int} (h1 : 1 ≤ v) (h2 : v ≤ (xs.length : Int)) : ∃ k : Nat, xs[k]? = some v :=
  List.getElem?_of_mem ((pig xs.length xs h.2 h.1).2 rfl v h1 h2)
theorem nodup_at {xs : List Int} (h : xs.Nodup) {i j : Nat} {x : Int} (hi : xs[i]? = some x) (hj : xs[j]? = some x) : i = j := by
  obtain ⟨h1, h2⟩ := List.getElem?_eq_some_iff.1 hi
  obtain ⟨h3, h4⟩ := List.getElem?_eq_some_iff.1 hj
  have hp := List.pairwise_iff_getElem.1 h
  rcases Nat.lt_trichotomy i j with h5 | h5 | h5
  · exact absurd (h2.trans h4.symm) (hp i j h1 h3 h5)
  · exact h5
  · exact absurd (h4.trans h2.symm) (hp j i h3 h1 h5)
theorem invTo_get {xs : List Int} (h : IsPermL xs) : ∀ (m : Nat), m ≤ xs.length → ∀ (k v : Nat), k < m → xs[k]? = some ((v : Int) + 1) → (invTo xs m)[v]? = some ((k : Int) + 1)
  | 0, _, k, v, hk, _ => by omega
  | m + 1, hm, k, v, hk, hx => by
    obtain ⟨u, hu⟩ : ∃ u : Nat, xs[m]? = some ((u : Int) + 1) := by
      have hy : xs[m]? = some _ := List.getElem?_eq_getElem (by omega)
      have := h.1 _ (List.mem_of_getElem? hy)
      refine ⟨(xs[m]'(by omega) - 1).toNat, ?_⟩
      rw [hy]; congr 1; omega
    have hun : u < xs.length := by have := h.1 _ (List.mem_of_getElem? hu); omega
    have e : invTo xs (m + 1) = (invTo xs m).set u ((m : Int) + 1) := by
      have := invTo_succ (xs := xs) (k := m) (v := u + 1) (by rw [hu]; rfl)
      simpa using this
    rw [e]
    by_cases hkm : k = m
    · subst hkm
      have : u = v := by rw [hu] at hx; have := Option.some.inj hx; omega
      subst this
      rw [List.getElem?_set_self (by rw [length_invTo]; exact hun)]
    · have hne : u ≠ v := fun e => hkm (nodup_at h.2 (by rw [hx, e]) hu)
      rw [List.getElem?_set_ne hne]
      exact invTo_get h m (by omega) k v (by omega) hx
theorem inv_get {xs : List Int} (h : IsPermL xs) {k v : Nat} (hx : xs[k]? = some ((v : Int) + 1)) : (inv xs)[v]? = some ((k : Int) + 1) :=
  invTo_get h xs.length (Nat.le_refl _) k v (List.getElem?_eq_some_iff.1 hx).1 hx
/-- .. and nothing else. -/
theorem inv_at {xs : List Int} (h : IsPermL xs) {v : Nat} {y : Int} (hy : (inv xs)[v]? = some y) : ∃ k : Nat, y = (k : Int) + 1 ∧ xs[k]? = some ((v : Int) + 1) := by
  have hv : v < xs.length := by have := (List.getElem?_eq_some_iff.1 hy).1; rwa [length_inv] at this
  obtain ⟨k, hk⟩ := perm_surj h (v := (v : Int) + 1) (by omega) (by omega)
  have := inv_get h hk
  rw [hy] at this
  exact ⟨k, Option.some.inj this, hk⟩
theorem perm_inv {xs : List Int} (h : IsPermL xs) : IsPermL (inv xs) := by
  constructor
  · intro y hy
    obtain ⟨v, hv⟩ := List.getElem?_of_mem hy
    obtain ⟨k, rfl, hk⟩ := inv_at h hv
    have := (List.getElem?_eq_some_iff.1 hk).1
    rw [length_inv]; omega
  · refine List.pairwise_iff_getElem.2 fun i j hi hj hij e => ?_
    have h1 : (inv xs)[i]? = some _ := List.getElem?_eq_getElem hi
    have h2 : (inv xs)[j]? = some _ := List.getElem?_eq_getElem hj
    obtain ⟨k, e1, hk⟩ := inv_at h h1
    obtain ⟨l, e2, hl⟩ := inv_at h h2
    have : k = l := by omega
    subst this
    rw [hk] at hl
    have := Option.some.inj hl
    omega
theorem perm8_inv {xs : List Int} (h : Perm8 xs) : Perm8 (inv xs) := ⟨by rw [length_inv]; exact h.1, perm_inv h.2⟩
theorem ext_perm {xs ys : List Int} (hl : xs.length = ys.length) (h : ∀ (i : Nat) (x : Int), xs[i]? = some x → ys[i]? = some x) : xs = ys := by
  refine List.ext_getElem? fun i => ?_
  by_cases hi : i < xs.length
  · have h1 : xs[i]? = some _ := List.getElem?_eq_getElem hi
    rw [h1, h i _ h1]
  · rw [List.getElem?_eq_none (by omega), List.getElem?_eq_none (by omega)]
theorem inv_inv {xs : List Int} (h : IsPermL xs) : inv (inv xs) = xs := by
  symm
  refine ext_perm (by simp [length_inv]) fun k x hx => ?_
  have h1 := h.1 x (List.mem_of_getElem? hx)
  obtain ⟨v, rfl⟩ : ∃ v : Nat, x = (v : Int) + 1 := ⟨(x - 1).toNat, by omega⟩
  exact inv_get (perm_inv h) (inv_get h hx)
/-- The inverse undoes. -/
theorem comp_inv {xs : List Int} (h : IsPermL xs) : ∀ (i : Nat) (x : Int), (comp xs (inv xs))[i]? = some x → x = (i : Int) + 1 := by
  intro i x hx
  unfold comp at hx
  rw [List.getElem?_map] at hx
  cases hy : (inv xs)[i]? with
  | none => rw [hy] at hx; simp at hx
  | some y =>
    rw [hy] at hx
    obtain ⟨k, rfl, hk⟩ := inv_at h hy
    simp only [Option.map_some, Option.some.injEq] at hx
    rw [← hx, show ((k : Int) + 1).toNat - 1 = k by omega, getD_of hk]
theorem compP_inv {xs : List Int} (h : Perm8 xs) : ComposeOk xs (invP xs) ∧ ∀ (i : Nat) (x : Int), (compP xs (invP xs))[i]? = some x → x = (i : Int) + 1 := by
  have e : invP xs = inv xs := if_pos h
  have hc : ComposeOk xs (inv xs) := ⟨h, perm8_inv h, (length_inv xs).symm⟩
  rw [e]
  refine ⟨hc, ?_⟩
  have e2 : compP xs (inv xs) = comp xs (inv xs) := if_pos hc
  rw [e2]
  exact comp_inv h.2
end Go.Proofs.Ytmojniiimondfaa
namespace Go.Proofs.Ytmojniiimondfaa
open Go.RowKit
/-- A list given back by a draw, at any address. -/
def RetDA (w : World) (m : Nat) (e : Ending) (w' : World) : Prop := ∃ a n c xs, e = .returned (.slice a n c) ∧ n ≤ m ∧ OwnI w' w.heap.size a n c xs ∧ Below w.heap.size w w'

/-- Lists drawn: the call's own. -/
def RetDLL (w : World) (cu : Nat) (e : Ending) (w' : World) : Prop := ∃ a n c xss, e = .returned (.slice a n c) ∧ n ≤ 4 ∧ Hid (∀ r ∈ xss, r.length ≤ 9) ∧ OwnII w' w.heap.size w'.heap.size a n c xss ∧ Cur w' cu ∧ Out cu (cu + 1) w w'

set_option maxHeartbeats 1000000 in
theorem l3List_any (cu : Nat) (w : World) (h : Cur w cu) :
    Calls Try.prog 90 #[.pointer (some ⟨cu, 0, none⟩)] w (RetDLL w cu) := by
  have hcl := h.lt
  have hba := below_alloc w (.cells #[] 28)
  have hW := l1Below_any cu 5 (w.alloc (.cells #[] 28)) (h.below hba) (by omega) (by omega)
  rw [upB_pos (by omega)] at hW
  go_enter Try.func90, Try.ntmps90
  go_wp2_with fail
  refine hW.mono ?_
  rintro e w2 ⟨x, rfl, hx1, hx2, hc2, ho2⟩
  obtain ⟨m, rfl⟩ : ∃ m : Nat, x = m := ⟨x.toNat, by omega⟩
  have hm4 : m ≤ 4 := by omega
  have hown2 : OwnII w2 w.heap.size w2.heap.size (some ⟨w.heap.size, 0, none⟩) 0 0 [] := ((OwnII.start w).out ho2 (.inr hcl)).mono (Nat.le_refl _) ho2.size
  have hout2 : Out cu (cu + 1) w w2 := (Below.out hba).trans ho2
  clear hW ho2
  go_wp2
  go_loopw [3, 5] (fun ov kv wr => ∃ (j c : Nat) (a : Option Addr) (xss : List (List Int)), j ≤ m ∧ ov = .slice a j c ∧ kv = .int .i64 (j : Int) ∧ Hid (∀ r ∈ xss, r.length ≤ 9) ∧ Hid (OwnII wr w.heap.size wr.heap.size a j c xss) ∧ Hid (Cur wr cu) ∧ Hid (Out cu (cu + 1) w wr)) (fun _ kv _ => m - (intOf kv).toNat)
  case atStart => exact ⟨0, 0, _, [], Nat.zero_le _, rfl, by go_num, by show ∀ r ∈ _, _; simp, hown2, hc2, hout2⟩
  case round =>
    obtain ⟨j, c1, a1, xss, hj, rfl, rfl, H9, HO, HC, HOut⟩ := hrel
    by_cases hlt : j < m
    · have hD := l1Below_any cu 5 wr HC.out (by omega) (by omega)
      rw [upB_pos (by omega)] at hD
      go_wp2_with fail
      refine hD.mono ?_
      rintro e w3 ⟨y, rfl, hy1, hy2, hc3, ho3⟩
      have hL := l2Draw_any cu y w3 hc3 (by omega) (by omega)
      clear hD
      go_wp2_with fail
      refine hL.mono ?_
      rintro e w4 ⟨g', n', c', ys, rfl, hn', ho', hc4, ho4⟩
      have hszr := HOut.out.size
      have hsz3 := ho3.size
      have hsz4 := ho4.size
      have hown4 : OwnII w4 w.heap.size wr.heap.size a1 j c1 xss := (HO.out.out ho3 (.inr hcl)).out ho4 (.inr hcl)
      have hout4 := (HOut.out.trans ho3).trans ho4
      have hrow := ho'.ins
      have h9 : Hid (∀ r ∈ xss ++ [ys], r.length ≤ 9) := by
        show ∀ r ∈ _, _
        intro r hr
        rcases List.mem_append.1 hr with h1 | h1
        · exact H9.out r h1
        · simp only [List.mem_singleton] at h1
          have h2 := ho'.1
          rw [h1]; omega
      clear hL HO HOut ho3 ho4 ho' hc3
      go_wp2_with (at_builtin; refine wpList_appII rfl _ _ rfl w.heap.size wr.heap.size w3.heap.size _ _ _ _ rfl hown4 _ _ _ _ hrow hsz3 hszr _ rfl rfl (by omega) (by omega) (by omega) ?_)
      intro a9 c9 w9 g1 g2 _
      have HO9 := Lib.hid g1
      have HC9 := Lib.hid (hc4.belowAt g2 hcl)
      have HT9 := Lib.hid (hout4.onBelow g2)
      clear g1 g2 hown4 hrow
      go_wp2
      go_roundw
      case rel => exact ⟨j + 1, c9, a9, _, by omega, rfl, by go_num, h9, HO9.out, HC9.out, HT9.out⟩
      case measure => simp [intOf]; omega
    · obtain rfl : j = m := by omega
      by_cases hj0 : 0 < j
      · have hjI : (0 : Int) < (j : Int) := by omega
        have hO := l1Once_any cu 12 wr HC.out (by omega) (by omega)
        have hown := HO.out
        have hout := HOut.out
        have hszr := hout.size
        clear HO HOut
        go_wp2_with fail
        refine hO.mono ?_
        rintro e w3 ⟨b, rfl, hc3, ho3⟩
        have hown3 := hown.out ho3 (.inr hcl)
        have hout3 := hout.trans ho3
        have hsz3 := ho3.size
        clear hO hown hout ho3
        cases b with
        | true =>
          have hB := l2Bent_any cu w3 hc3
          go_wp2_with fail
          refine hB.mono ?_
          rintro e w5 ⟨g', n', c', ys, rfl, hn', ho', hc5, ho5⟩
          have hown5 := hown3.out ho5 (.inr hcl)
          have hout5 := hout3.trans ho5
          have hsz5 := ho5.size
          obtain ⟨g, ra, rn, rc, zs, rfl, hcell, _, _, _⟩ := hown5.row hj0
          obtain ⟨p1, p2, p3, hfz, p5⟩ := hown5.put hj0 ho'.ins hsz3 hszr (by omega)
          have hb9 : Below w.heap.size w5 (w5.setCell ⟨g, 0, none⟩ (.slice (some ⟨g', 0, none⟩) n' c')) := grownBy_below p2 (by omega) (fun k hk => by cases hk; exact p3)
          have h9 : Hid (∀ r ∈ xss.set 0 ys, r.length ≤ 9) := by
            show ∀ r ∈ _, _
            intro r hr
            rcases List.mem_or_eq_of_mem_set hr with h1 | h1
            · exact H9.out r h1
            · have h2 := ho'.1
              rw [h1]; omega
          have HO9 := Lib.hid (p1.mono (Nat.le_refl _) (Nat.le_of_eq p5.symm))
          have HC9 := Lib.hid (hc5.belowAt hb9 hcl)
          have HT9 := Lib.hid (hout5.onBelow hb9)
          clear hB hown3 hown5 hout3 hout5 p1 p2 hb9 ho5 ho'
          go_wp2
          go_ret
          exact ⟨_, j, c1, _, rfl, hm4, h9, HO9.out, HC9.out, HT9.out⟩
        | false =>
          have HO9 := Lib.hid (hown3.mono (Nat.le_refl _) hsz3)
          clear hown3
          go_wp2
          go_ret
          exact ⟨_, j, c1, _, rfl, hm4, H9, HO9.out, hc3, hout3⟩
      · have hjI : ¬ (0 : Int) < (j : Int) := by omega
        go_wp2
        go_ret
        exact ⟨_, j, c1, _, rfl, hm4, H9, HO.out, HC.out, HOut.out⟩

end Go.Proofs.Ytmojniiimondfaa
namespace Go.Proofs.Ytmojniiimondfaa
open Go.RowKit

theorem jn_append {sk : Bool} {l m : List (List Int)} : ∀ k, k ≤ l.length → jn sk (l ++ m) k = jn sk l k
  | 0, _ => rfl
  | k + 1, h => by
    simp only [jn]
    rw [jn_append k (by omega)]
    congr 1
    rw [List.getD, List.getD, List.getElem?_append_left (by omega)]
theorem jn_snoc {sk : Bool} (l : List (List Int)) (r : List Int) : jn sk (l ++ [r]) (l ++ [r]).length = joinL sk (jn sk l l.length) r := by
  rw [List.length_append, List.length_cons, List.length_nil, Nat.zero_add]
  simp only [jn]
  rw [jn_append _ (Nat.le_refl _)]
  congr 1
  rw [List.getD, List.getElem?_append_right (Nat.le_refl _), Nat.sub_self]; rfl
theorem raise_back (l : List Int) (d : Int) : raise (raise l (-d)) d = l := by
  unfold raise
  rw [List.map_map]
  have : ∀ v ∈ l, ((fun v => v + d) ∘ fun v => v + -d) v = id v := fun v _ => by simp only [Function.comp, id]; omega
  rw [List.map_congr_left this]; simp
theorem most_full {xs : List Int} (h : IsPermL xs) : mostAt xs xs.length = (xs.length : Int) := by
  have hb := (most_bd (h.upb rfl) xs.length).2
  rcases Nat.eq_zero_or_pos xs.length with h0 | h0
  · have := (most_bd (h.upb rfl) xs.length).1; omega
  · obtain ⟨k, hk⟩ := perm_surj h (v := (xs.length : Int)) (by omega) (Int.le_refl _)
    have := le_most (xs := xs) (Nat.le_refl _) (xs.length : Int) (by rw [List.take_length]; exact List.mem_of_getElem? hk)
    omega
theorem from_full {xs : List Int} (h : IsPermL xs) : fromAt xs xs.length = xs.length := by
  have hm := most_full h
  generalize hn : xs.length = n at hm
  cases n with
  | zero => rfl
  | succ k => simp only [fromAt]; rw [if_pos (by omega)]
theorem join_parts {xs : List Int} (h : IsPermL xs) (k : Nat) (hk : k ≤ xs.length) :
    jn false (partsG (fun _ l => pat l) xs k) (partsG (fun _ l => pat l) xs k).length = xs.take (fromAt xs k) := by
  induction k with
  | zero => rfl
  | succ k ih =>
    have hf := fromAt_le xs k
    have ih' := ih (by omega)
    simp only [partsG, fromAt]
    split
    · rename_i hm
      rw [jn_snoc, ih', pat_part h (by omega) hm]
      unfold joinL
      rw [if_neg (by simp), List.length_take, Nat.min_eq_left (by omega), raise_back]
      have h1 : (xs.drop (fromAt xs k)).take (k + 1 - fromAt xs k) = (xs.take (k + 1)).drop (fromAt xs k) := by rw [List.drop_take]
      have h2 : xs.take (fromAt xs k) = (xs.take (k + 1)).take (fromAt xs k) := by rw [List.take_take, Nat.min_eq_left (by omega)]
      rw [h1, h2, List.take_append_drop]
    · rw [List.append_nil, ih']
theorem join_sum {xs : List Int} (h : IsPermL xs) : jn false (sumPs xs) (sumPs xs).length = xs := by
  unfold sumPs
  rw [join_parts h _ (Nat.le_refl _), from_full h, List.take_length]
theorem compl_twice (xs : List Int) : compl (compl xs) = xs := by
  unfold compl
  rw [List.length_map, List.map_map]
  have : ∀ v ∈ xs, ((fun v => (xs.length : Int) + 1 - v) ∘ fun v => (xs.length : Int) + 1 - v) v = id v := fun v _ => by simp only [Function.comp, id]; omega
  rw [List.map_congr_left this]; simp
theorem joinL_compl (a b : List Int) : joinL true (compl a) (compl b) = compl (joinL false a b) := by
  unfold joinL
  simp only [if_true, Bool.false_eq_true, if_false]
  unfold compl raise
  simp only [List.length_map, List.length_append, List.map_append, List.map_map]
  congr 1
  · refine List.map_congr_left fun v _ => ?_
    simp only [Function.comp]; omega
  · refine List.map_congr_left fun v _ => ?_
    simp only [Function.comp]; omega
theorem jn_compl (l : List (List Int)) : ∀ k, k ≤ l.length → jn true (l.map compl) k = compl (jn false l k)
  | 0, _ => rfl
  | k + 1, h => by
    have hx : l[k]? = some _ := List.getElem?_eq_getElem (by omega)
    have hy : (l.map compl)[k]? = some (compl l[k]) := by rw [List.getElem?_map, hx]; rfl
    rw [jn_succ hx, jn_succ hy, jn_compl l k (by omega), joinL_compl]
theorem join_skew {xs : List Int} (h : IsPermL xs) : jn true (skewPs xs) (skewPs xs).length = xs := by
  unfold skewPs
  rw [List.length_map, jn_compl _ _ (Nat.le_refl _), join_sum (perm_compl h), compl_twice]
theorem jok_sum {xs : List Int} (h : Perm8 xs) : JOk (sumPs xs) (sumPs xs).length := by
  refine ⟨fun r hr => ?_, ?_⟩
  · rw [List.take_length] at hr; have := rows_sumPs h r hr; exact ⟨this.2, this.1⟩
  · rw [List.take_length]; exact Nat.le_trans (totL_sumPs xs) h.1
theorem jok_skew {xs : List Int} (h : Perm8 xs) : JOk (skewPs xs) (skewPs xs).length := by
  refine ⟨fun r hr => ?_, ?_⟩
  · rw [List.take_length] at hr; have := rows_skewPs h r hr; exact ⟨this.2, this.1⟩
  · rw [List.take_length]; exact Nat.le_trans (totL_skewPs xs) h.1

/-! ### not both a sum and a skew sum -/
theorem parts_none {g : Nat → List Int → List Int} {xs : List Int} : ∀ k, (∀ m, 1 ≤ m → m ≤ k → mostAt xs m ≠ (m : Int)) → partsG g xs k = []
  | 0, _ => rfl
  | k + 1, h => by
    simp only [partsG]
    rw [parts_none k (fun m h1 h2 => h m h1 (by omega)), if_neg (by have := h (k + 1) (by omega) (by omega); omega)]; rfl
theorem cut_ex {xs : List Int} (h : 1 < (sumPs xs).length) : ∃ m, 1 ≤ m ∧ m < xs.length ∧ mostAt xs m = (m : Int) := by
  refine Classical.byContradiction fun hno => ?_
  have hno' : ∀ m, 1 ≤ m → m < xs.length → mostAt xs m ≠ (m : Int) := fun m h1 h2 h3 => hno ⟨m, h1, h2, h3⟩
  unfold sumPs at h
  cases hn : xs.length with
  | zero => rw [hn] at h; simp [partsG] at h
  | succ k =>
    rw [hn] at h
    simp only [partsG] at h
    rw [parts_none k (fun m h1 h2 => hno' m h1 (by omega)), List.nil_append] at h
    split at h <;> simp at h
theorem cut_has {xs : List Int} (h : IsPermL xs) {m : Nat} (hm : m ≤ xs.length) (hc : mostAt xs m = (m : Int)) : (∀ v ∈ xs.take m, v ≤ (m : Int)) ∧ ∀ v : Int, 1 ≤ v → v ≤ (m : Int) → v ∈ xs.take m := by
  have h1 : ∀ v ∈ xs.take m, v ≤ (m : Int) := fun v hv => by have := le_most hm v hv; omega
  refine ⟨h1, ?_⟩
  exact (pig m (xs.take m) (h.2.sublist (List.take_sublist _ _)) (fun v hv => ⟨(h.1 v (List.mem_of_mem_take hv)).1, h1 v hv⟩)).2 (by rw [List.length_take]; omega)
theorem not_both {xs : List Int} (h : IsPermL xs) (h1 : 1 < (sumPs xs).length) (h2 : 1 < (skewPs xs).length) : False := by
  unfold skewPs at h2
  rw [List.length_map] at h2
  obtain ⟨m, hm1, hm2, hm3⟩ := cut_ex h1
  obtain ⟨q, hq1, hq2, hq3⟩ := cut_ex h2
  rw [length_compl] at hq2
  obtain ⟨a1, a2⟩ := cut_has h (by omega) hm3
  obtain ⟨b1, b2⟩ := cut_has (perm_compl h) (by rw [length_compl]; omega) hq3
  have ec : (compl xs).take q = (xs.take q).map fun v => (xs.length : Int) + 1 - v := by unfold compl; rw [List.map_take]
  rw [ec] at b1 b2
  rcases Nat.lt_or_ge q m with hlt | hlt
  · obtain ⟨v, hv, e⟩ := List.mem_map.1 (b2 1 (by omega) (by omega))
    have hv2 : v ∈ xs.take m := by
      have : xs.take q = (xs.take m).take q := by rw [List.take_take, Nat.min_eq_left (by omega)]
      rw [this] at hv
      exact List.mem_of_mem_take hv
    have := a1 v hv2
    omega
  · have h3 := a2 1 (by omega) (by omega)
    have h4 : (1 : Int) ∈ xs.take q := by
      have : xs.take m = (xs.take q).take m := by rw [List.take_take, Nat.min_eq_left (by omega)]
      rw [this] at h3
      exact List.mem_of_mem_take h3
    have := b1 _ (List.mem_map.2 ⟨1, h4, rfl⟩)
    omega

/-! ### the parts of a sum -/
theorem most_left {xs zs : List Int} : ∀ k, k ≤ xs.length → mostAt (xs ++ zs) k = mostAt xs k
  | 0, _ => rfl
  | k + 1, h => by
    simp only [mostAt]
    rw [most_left k (by omega)]
    congr 1
    rw [List.getD, List.getD, List.getElem?_append_left (by omega)]
theorem most_right {xs ys : List Int} (h : IsPermL xs) (hy : IsPermL ys) : ∀ j, j ≤ ys.length → mostAt (xs ++ raise ys (xs.length : Int)) (xs.length + j) = (xs.length : Int) + mostAt ys j
  | 0, _ => by
    rw [Nat.add_zero, most_left _ (Nat.le_refl _), most_full h]; simp [mostAt]
  | j + 1, hj => by
    have e : xs.length + (j + 1) = (xs.length + j) + 1 := by omega
    rw [e]
    simp only [mostAt]
    rw [most_right h hy j (by omega)]
    have hx : ys[j]? = some _ := List.getElem?_eq_getElem (by omega)
    have hg : (xs ++ raise ys (xs.length : Int)).getD (xs.length + j) 0 = ys[j]'(by omega) + (xs.length : Int) := by
      rw [List.getD, List.getElem?_append_right (by omega), Nat.add_sub_cancel_left]
      unfold raise
      rw [List.getElem?_map, hx]; rfl
    rw [hg, getD_of hx]
    omega
theorem cnt_left {g : Nat → List Int → List Int} {xs zs : List Int} : ∀ k, k ≤ xs.length → (partsG g (xs ++ zs) k).length = (partsG g xs k).length
  | 0, _ => rfl
  | k + 1, h => by
    simp only [partsG, List.length_append]
    rw [cnt_left k (by omega), most_left (k + 1) h]
    congr 1
    split <;> rfl
theorem cnt_right {g : Nat → List Int → List Int} {xs ys : List Int} (h : IsPermL xs) (hy : IsPermL ys) : ∀ j, j ≤ ys.length → (partsG g (xs ++ raise ys (xs.length : Int)) (xs.length + j)).length = (partsG g xs xs.length).length + (partsG g ys j).length
  | 0, _ => by rw [Nat.add_zero, cnt_left _ (Nat.le_refl _)]; simp [partsG]
  | j + 1, hj => by
    have e : xs.length + (j + 1) = (xs.length + j) + 1 := by omega
    have hm := most_right h hy (j + 1) hj
    rw [e] at hm ⊢
    simp only [partsG, List.length_append]
    rw [cnt_right h hy j (by omega), hm]
    by_cases hc : mostAt ys (j + 1) = (j : Int) + 1
    · rw [if_pos hc, if_pos (by rw [hc]; omega)]; simp; omega
    · rw [if_neg hc, if_neg (by omega)]; simp
theorem parts_sum {xs ys : List Int} (h : SumOk xs ys) : (sumPsP (sumP false xs ys)).length = (sumPsP xs).length + (sumPsP ys).length := by
  have e : sumP false xs ys = xs ++ raise ys (xs.length : Int) := by
    unfold sumP; rw [if_pos h]; rfl
  have hp : Perm8 (xs ++ raise ys (xs.length : Int)) := by
    have h1 : IsPermL (joinL false xs ys) := perm_joinL h.1.2 h.2.1.2
    exact ⟨by have := length_joinL false xs ys; have h2 := h.2.2; simp only [joinL] at this; simp at this ⊢; omega, h1⟩
  rw [e]
  unfold sumPsP
  rw [if_pos hp, if_pos h.1, if_pos h.2.1]
  unfold sumPs
  have hl : (xs ++ raise ys (xs.length : Int)).length = xs.length + ys.length := by simp [raise]
  rw [hl]
  exact cnt_right h.1.2 h.2.1.2 ys.length (Nat.le_refl _)
end Go.Proofs.Ytmojniiimondfaa
namespace Go.Proofs.Ytmojniiimondfaa
open Go.RowKit

/-- A list drawn, at any address. -/
def RetDLA (w : World) (cu m : Nat) (e : Ending) (w' : World) : Prop := ∃ a n c xs, e = .returned (.slice a n c) ∧ n ≤ m ∧ OwnI w' w.heap.size a n c xs ∧ Cur w' cu ∧ Out cu (cu + 1) w w'
theorem iis2 {w : World} {blk : Nat} {pa qa : Option Addr} {pn pc qn qc : Nat} {xs ys : List Int} (h0 : w.cell? ⟨blk, 0, none⟩ = some (.slice pa pn pc)) (h1 : w.cell? ⟨blk, 1, none⟩ = some (.slice qa qn qc)) (hp : SlI w pa pn pc xs) (hq : SlI w qa qn qc ys) : IIs w (some ⟨blk, 0, none⟩) 2 2 [xs, ys] := by
  refine ⟨fun i zs hz => ?_, rfl, by omega, Nat.le_refl _⟩
  rcases i with _ | _ | i
  · simp only [List.getElem?_cons_zero, Option.some.injEq] at hz
    subst hz
    exact ⟨blk, 0, (pa, pn, pc), rfl, h0, hp⟩
  · simp only [List.getElem?_cons_succ, List.getElem?_cons_zero, Option.some.injEq] at hz
    subst hz
    exact ⟨blk, 0, (qa, qn, qc), rfl, h1, hq⟩
  · simp at hz

set_option maxHeartbeats 1000000 in
theorem l4Two_any (a : Option Addr) (n c : Nat) (w : World) (hn : n ≤ 1048576) (h : Byts w w.heap.size a n) :
    Calls Try.prog 86 #[.slice a n c] w (RetDII w 9) := by
  have hC := l1New_any a n c w hn h
  go_enter Try.func86, Try.ntmps86
  go_wp2_with fail
  refine hC.mono ?_
  rintro e w1 ⟨cu, rfl, hcu, hc1, hb1⟩
  have hcl := hc1.lt
  have hL := l1Below_any cu 6 w1 hc1 (by omega) (by omega)
  rw [upB_pos (by omega)] at hL
  clear hC
  go_wp2_with fail
  refine hL.mono ?_
  rintro e w2 ⟨x, rfl, hx1, hx2, hc2, ho2⟩
  have hW := l2Draw_any cu x w2 hc2 (by omega) (by omega)
  clear hL
  go_wp2_with fail
  refine hW.mono ?_
  rintro e w3 ⟨g, m, d, xs, rfl, hm, ho, hc3, ho3⟩
  have hO := l1Once_any cu 12 w3 hc3 (by omega) (by omega)
  have hcl2 : cu < w2.heap.size := hc2.lt
  clear hW
  go_wp2_with fail
  refine hO.mono ?_
  rintro e w4 ⟨b, rfl, hc4, ho4⟩
  have hown4 := ho.outC ho4 hcl2
  have hout4 := (ho2.trans ho3).trans ho4
  have hs12 := ho2.size
  clear hO ho
  cases b with
  | true =>
    have hW := l2Bent_any cu w4 hc4
    go_wp2_with fail
    refine hW.mono ?_
    rintro e w5 ⟨g', m', d', ys, rfl, hm', ho', hc5, ho5⟩
    have hown5 := hown4.outC ho5 hcl2
    have hbe := draw_below hcu hb1 (hout4.trans ho5)
    clear hW hown4
    go_wp2
    go_ret2
    exact ⟨g, m, d, xs, g', m', d', ys, rfl, by omega, hm', hown5.mono (Nat.le_trans hb1.size hs12), ho'.mono (Nat.le_trans hb1.size hout4.size), hbe⟩
  | false =>
    have hL := l1Below_any cu 5 w4 hc4 (by omega) (by omega)
    rw [upB_pos (by omega)] at hL
    go_wp2_with fail
    refine hL.mono ?_
    rintro e w5 ⟨y, rfl, hy1, hy2, hc5, ho5⟩
    have hown5 := hown4.outC ho5 hcl2
    have hout5 := hout4.trans ho5
    have hW := l2Draw_any cu y w5 hc5 (by omega) (by omega)
    clear hL hown4
    go_wp2_with fail
    refine hW.mono ?_
    rintro e w6 ⟨g', m', d', ys, rfl, hm', ho', hc6, ho6⟩
    have hown6 := hown5.outC ho6 hcl2
    have hbe := draw_below hcu hb1 (hout5.trans ho6)
    clear hW hown5
    go_wp2
    go_ret2
    exact ⟨g, m, d, xs, g', m', d', ys, rfl, by omega, by omega, hown6.mono (Nat.le_trans hb1.size hs12), ho'.mono (Nat.le_trans hb1.size hout5.size), hbe⟩

set_option maxHeartbeats 400000 in
theorem drawSumOf_any (a : Option Addr) (n c : Nat) (w : World) (hn : n ≤ 1048576) (h : Byts w w.heap.size a n) :
    Calls Try.prog 40 #[.slice a n c] w (RetDII w 9) := by
  have hC := l4Two_any a n c w hn h
  go_enter Try.func40, Try.ntmps40
  go_wp2_with fail
  refine hC.mono ?_
  rintro e w1 ⟨g, m, d, xs, g', m', d', ys, rfl, hm, hm', ho, ho', hbe⟩
  clear hC
  go_wp2
  go_ret2
  exact ⟨g, m, d, xs, g', m', d', ys, rfl, hm, hm', ho, ho', hbe⟩

set_option maxHeartbeats 1000000 in
theorem l4Summed_any (cu : Nat) (w : World) (h : Cur w cu) :
    Calls Try.prog 112 #[.pointer (some ⟨cu, 0, none⟩)] w (RetDLA w cu 9) := by
  have hcl := h.lt
  have hL := l1Below_any cu 4 w h (by omega) (by omega)
  rw [upB_pos (by omega)] at hL
  go_enter Try.func112, Try.ntmps112
  go_wp2_with fail
  refine hL.mono ?_
  rintro e w1 ⟨x, rfl, hx1, hx2, hc1, ho1⟩
  have hW := l2Draw_any cu x w1 hc1 (by omega) (by omega)
  clear hL
  go_wp2_with fail
  refine hW.mono ?_
  rintro e w2 ⟨g, m, d, xs, rfl, hm, ho, hc2, ho2⟩
  have hown2 : OwnI w2 w.heap.size (some ⟨g, 0, none⟩) m d xs := ho.mono ho1.size
  have hout2 : Out cu (cu + 1) w w2 := ho1.trans ho2
  have hm9 : m ≤ 9 := by omega
  clear hW ho ho1 ho2
  go_wp2
  go_loopw [3, 4, 5, 6] (fun pv kv _ _ wr => ∃ (j pn pc : Nat) (pa : Option Addr) (xs : List Int), j ≤ 3 ∧ pn ≤ 9 ∧ pv = .slice pa pn pc ∧ kv = .int .i64 (j : Int) ∧ Hid (OwnI wr w.heap.size pa pn pc xs) ∧ Hid (Cur wr cu) ∧ Hid (Out cu (cu + 1) w wr)) (fun _ kv _ _ _ => 3 - (intOf kv).toNat)
  case atStart => exact ⟨0, m, d, _, xs, Nat.zero_le _, hm9, rfl, rfl, hown2, hc2, hout2⟩
  case round =>
    obtain ⟨j, pn, pc, pa, ps, hj, hp9, rfl, rfl, HO, HC, HOut⟩ := hrel
    by_cases hlt : j < 3
    · have hL := l1Below_any cu 3 wr HC.out (by omega) (by omega)
      rw [upB_pos (by omega)] at hL
      go_wp2_with fail
      refine hL.mono ?_
      rintro e w3 ⟨y, rfl, hy1, hy2, hc3, ho3⟩
      have hown3 := HO.out.outC ho3 hcl
      have hout3 := HOut.out.trans ho3
      have hW := l2Draw_any cu y w3 hc3 (by omega) (by omega)
      clear hL HO HOut ho3
      go_wp2_with fail
      refine hW.mono ?_
      rintro e w4 ⟨g', n', c', ys, rfl, hn', hr4, hc4, ho4⟩
      have hown4 := hown3.outC ho4 hcl
      have hout4 := hout3.trans ho4
      have hcl3 := hc3.lt
      have hba := below_alloc w4 (.cells #[.slice pa pn pc, .slice (some ⟨g', 0, none⟩) n' c'] 28)
      have hO := l1Once_any cu 2 _ (hc4.below hba) (by omega) (by omega)
      have hsz4 : cu < w4.heap.size := hc4.lt
      clear hW ho4 hown3
      go_wp2_with fail
      refine hO.mono ?_
      rintro e w5 ⟨b, rfl, hc5, ho5⟩
      have hown5 := (hown4.below hba).outC ho5 hcl
      have hr5 := (hr4.below hba).outC ho5 hcl3
      have hout5 := (hout4.onBelow (hba.mono hout4.size)).trans ho5
      have hx0 : w5.cell? ⟨w4.heap.size, 0, none⟩ = some (.slice pa pn pc) := (World.cell?_of_block (a := ⟨w4.heap.size, 0, none⟩) (ho5.block w4.heap.size (by simp) (.inr (by omega)))).trans (by rw [World.cell?_alloc_at (hn := rfl)]; rfl)
      have hx1 : w5.cell? ⟨w4.heap.size, 1, none⟩ = some (.slice (some ⟨g', 0, none⟩) n' c') := (World.cell?_of_block (a := ⟨w4.heap.size, 1, none⟩) (ho5.block w4.heap.size (by simp) (.inr (by omega)))).trans (by rw [World.cell?_alloc_at (hn := rfl)]; rfl)
      have hii := iis2 hx0 hx1 (hown5.sl (by omega)) (hr5.sl (by omega))
      have hJ := spec_JoinParts _ 2 2 _ b w5 hii
      have hjl := length_joinP b [ps, ys]
      clear hO hown4 hr4 hr5 hx0 hx1 hii ho5
      obtain ⟨v, hv⟩ : ∃ v, v = decide (JOk [ps, ys] [ps, ys].length) := ⟨_, rfl⟩
      rw [← hv] at hJ
      clear hv
      go_wp2_with fail
      refine hJ.mono ?_
      rintro e w6 ⟨qa, qn, qc, rfl, hoq, hb6⟩
      have hq8 : qn ≤ 8 := by have h1 := hoq.1; omega
      have HO6 := Lib.hid (hown5.below hb6)
      have HQ6 := Lib.hid (hoq.mono hout5.size)
      have HC6 := Lib.hid (hc5.below hb6)
      have HT6 := Lib.hid (hout5.onBelow (hb6.mono hout5.size))
      clear hJ hown5 hoq hout5 hb6 hc5
      cases v with
      | true =>
        go_wp2
        go_roundw
        case rel => exact ⟨j + 1, qn, qc, qa, _, by omega, by omega, rfl, by go_num, HQ6.out, HC6.out, HT6.out⟩
        case measure => simp [intOf]; omega
      | false =>
        go_wp2
        go_roundw
        case rel => exact ⟨j + 1, pn, pc, pa, _, by omega, by omega, rfl, by go_num, HO6.out, HC6.out, HT6.out⟩
        case measure => simp [intOf]; omega
    · obtain rfl : j = 3 := by omega
      go_wp2
      go_ret
      exact ⟨pa, pn, pc, ps, rfl, hp9, HO.out, HC.out, HOut.out⟩

set_option maxHeartbeats 600000 in
theorem l4Bent_any (cu : Nat) (w : World) (h : Cur w cu) :
    Calls Try.prog 83 #[.pointer (some ⟨cu, 0, none⟩)] w (RetDLA w cu 9) := by
  have hO := l1Once_any cu 3 w h (by omega) (by omega)
  go_enter Try.func83, Try.ntmps83
  go_wp2_with fail
  refine hO.mono ?_
  rintro e w1 ⟨b, rfl, hc1, ho1⟩
  clear hO
  cases b with
  | true =>
    have hW := l2Bent_any cu w1 hc1
    go_wp2_with fail
    refine hW.mono ?_
    rintro e w2 ⟨g, m, d, xs, rfl, hm, ho, hc2, ho2⟩
    have hout := ho1.trans ho2
    have HO := Lib.hid (ho.mono ho1.size)
    clear ho
    go_wp2
    go_ret
    exact ⟨_, m, d, xs, rfl, hm, HO.out, hc2, hout⟩
  | false =>
    have hW := l4Summed_any cu w1 hc1
    go_wp2_with fail
    refine hW.mono ?_
    rintro e w2 ⟨pa, m, d, xs, rfl, hm, ho, hc2, ho2⟩
    have hout := ho1.trans ho2
    have HO := Lib.hid (ho.mono ho1.size)
    clear ho
    go_wp2
    go_ret
    exact ⟨_, m, d, xs, rfl, hm, HO.out, hc2, hout⟩

set_option maxHeartbeats 400000 in
theorem drawSumParts_any (a : Option Addr) (n c : Nat) (w : World) (hn : n ≤ 1048576) (h : Byts w w.heap.size a n) :
    Calls Try.prog 37 #[.slice a n c] w (RetDA w 9) := by
  have hC := l1New_any a n c w hn h
  go_enter Try.func37, Try.ntmps37
  go_wp2_with fail
  refine hC.mono ?_
  rintro e w1 ⟨cu, rfl, hcu, hc1, hb1⟩
  have hW := l4Bent_any cu w1 hc1
  clear hC
  go_wp2_with fail
  refine hW.mono ?_
  rintro e w2 ⟨pa, m, d, xs, rfl, hm, ho, hc2, ho2⟩
  have hbe := draw_below hcu hb1 ho2
  go_wp2
  go_ret
  exact ⟨pa, m, d, xs, rfl, hm, ho.mono hb1.size, hbe⟩

set_option maxHeartbeats 600000 in
theorem drawJoinParts_any (a : Option Addr) (n c : Nat) (w : World) (hn : n ≤ 1048576) (h : Byts w w.heap.size a n) :
    Calls Try.prog 45 #[.slice a n c] w fun e w' => ∃ a n c xss sk, e = .returned (.tuple #[.slice a n c, .bool sk]) ∧ Hid (totL xss ≤ 1048576 ∧ xss.length ≤ 1048576) ∧ OwnII w' w.heap.size w'.heap.size a n c xss ∧ Below w.heap.size w w' := by
  have hC := l1New_any a n c w hn h
  go_enter Try.func45, Try.ntmps45
  go_wp2_with fail
  refine hC.mono ?_
  rintro e w1 ⟨cu, rfl, hcu, hc1, hb1⟩
  have hW := l3List_any cu w1 hc1
  have hcl := hc1.lt
  clear hC
  go_wp2_with fail
  refine hW.mono ?_
  rintro e w2 ⟨a2, m, d, xss, rfl, hm, h9, ho, hc2, ho2⟩
  have hO := l1Once_any cu 2 w2 hc2 (by omega) (by omega)
  have hbd : Hid (totL xss ≤ 1048576 ∧ xss.length ≤ 1048576) := by
    show _ ∧ _
    have h1 := totL_bound (m := 9) h9.out
    have h2 := ho.len
    omega
  clear hW
  go_wp2_with fail
  refine hO.mono ?_
  rintro e w3 ⟨b, rfl, hc3, ho3⟩
  have hbe := draw_below hcu hb1 (ho2.trans ho3)
  have HO := Lib.hid ((ho.out ho3 (.inr hcl)).mono hb1.size ho3.size)
  clear ho hO
  go_wp2
  go_ret2
  exact ⟨a2, m, d, xss, b, rfl, hbd, HO.out, hbe⟩

set_option maxHeartbeats 1000000 in
theorem drawIsLayered_any (a : Option Addr) (n c : Nat) (w : World) (hn : n ≤ 1048576) (h : Byts w w.heap.size a n) :
    Calls Try.prog 48 #[.slice a n c] w (RetDA w 9) := by
  have hC := l1New_any a n c w hn h
  go_enter Try.func48, Try.ntmps48
  go_wp2_with fail
  refine hC.mono ?_
  rintro e w1 ⟨cu, rfl, hcu, hc1, hb1⟩
  have hO := l1Once_any cu 2 w1 hc1 (by omega) (by omega)
  have hcl := hc1.lt
  clear hC
  go_wp2_with fail
  refine hO.mono ?_
  rintro e w2 ⟨b, rfl, hc2, ho2⟩
  clear hO
  cases b with
  | true =>
    have hba := below_alloc w2 (.cells #[] 28)
    have hs2 := ho2.size
    have hownS : OwnII (w2.alloc (.cells #[] 28)) w1.heap.size (w2.alloc (.cells #[] 28)).heap.size (some ⟨w2.heap.size, 0, none⟩) 0 0 [] := (OwnII.start w2).mono hs2 (Nat.le_refl _)
    have hcS := hc2.below hba
    have hoS : Out cu (cu + 1) w1 (w2.alloc (.cells #[] 28)) := ho2.onBelow (hba.mono hs2)
    clear hba
    go_wp2
    go_loopw [4, 5] (fun ov kv wr => ∃ (j c : Nat) (a : Option Addr) (xss : List (List Int)), j ≤ 3 ∧ ov = .slice a j c ∧ kv = .int .i64 (j : Int) ∧ Hid (∀ r ∈ xss, r.length ≤ 9) ∧ Hid (OwnII wr w1.heap.size wr.heap.size a j c xss) ∧ Hid (Cur wr cu) ∧ Hid (Out cu (cu + 1) w1 wr)) (fun _ kv _ => 3 - (intOf kv).toNat)
    case atStart => exact ⟨0, 0, _, [], Nat.zero_le _, rfl, by go_num, by show ∀ r ∈ _, _; simp, hownS, hcS, hoS⟩
    case round =>
      obtain ⟨j, c1, a1, xss, hj, rfl, rfl, H9, HO, HC, HOut⟩ := hrel
      by_cases hlt : j < 3
      · have hD := l1Below_any cu 3 wr HC.out (by omega) (by omega)
        rw [upB_pos (by omega)] at hD
        go_wp2_with fail
        refine hD.mono ?_
        rintro e w3 ⟨y, rfl, hy1, hy2, hc3, ho3⟩
        have hI := spec_IdentityPerm y w3 (wf_mid (by omega) (by omega))
        have hil := length_identP y
        clear hD
        go_wp2_with fail
        refine hI.mono ?_
        rintro e w4 ⟨ia, i_n, ic, rfl, hoi, hb4⟩
        have hR := l3Reverse_any ia i_n ic _ w4 (hoi.sl (by have h1 := hoi.1; omega))
        have hi8 : i_n ≤ 8 := by have h1 := hoi.1; omega
        have hoi1 := hoi.1
        clear hI hoi
        go_wp2_with fail
        refine hR.mono ?_
        rintro e w5 ⟨ra, rn, rc, rfl, hor, hb5⟩
        have hszr := HOut.out.size
        have hsz3 := ho3.size
        have hsz4 := hb4.size
        have hsz5 := hb5.size
        have hb35 : Below w3.heap.size w3 w5 := hb4.trans (hb5.mono hsz4)
        have hown5 : OwnII w5 w1.heap.size wr.heap.size a1 j c1 xss := (HO.out.out ho3 (.inr hcl)).below hb35
        have hout5 := (HOut.out.trans ho3).onBelow (hb35.mono (by omega))
        have hc5 := hc3.below hb35
        have hrow := hor.ins
        have h9 : Hid (∀ r ∈ xss ++ [(identP y).reverse], r.length ≤ 9) := by
          show ∀ r ∈ _, _
          intro r hr
          rcases List.mem_append.1 hr with h1 | h1
          · exact H9.out r h1
          · simp only [List.mem_singleton] at h1
            rw [h1, List.length_reverse]; omega
        clear hR HO HOut ho3 hb4 hb5 hb35 hor hc3
        go_wp2_with (at_builtin; refine wpList_appII rfl _ _ rfl w1.heap.size wr.heap.size w4.heap.size _ _ _ _ rfl hown5 _ _ _ _ hrow (by omega) hszr _ rfl rfl (by omega) (by omega) (by omega) ?_)
        intro a9 c9 w9 g1 g2 _
        have HO9 := Lib.hid g1
        have HC9 := Lib.hid (hc5.belowAt g2 hcl)
        have HT9 := Lib.hid (hout5.onBelow g2)
        clear g1 g2 hown5 hrow
        go_wp2
        go_roundw
        case rel => exact ⟨j + 1, c9, a9, _, by omega, rfl, by go_num, h9, HO9.out, HC9.out, HT9.out⟩
        case measure => simp [intOf]; omega
      · obtain rfl : j = 3 := by omega
        have hlen : Hid (totL xss ≤ 2097152 ∧ xss.length ≤ 2097152) := by
          show _ ∧ _
          have h1 := totL_bound (m := 9) H9.out
          have h2 := HO.out.len
          omega
        have hJ := spec_JoinParts a1 3 c1 xss false wr (HO.out.iisT hlen.out)
        have hjl := length_joinP false xss
        have hbe := draw_below hcu hb1 HOut.out
        have hszr := HOut.out.size
        obtain ⟨v, hv⟩ : ∃ v, v = decide (JOk xss xss.length) := ⟨_, rfl⟩
        rw [← hv] at hJ
        clear HO hv
        go_wp2_with fail
        refine hJ.mono ?_
        rintro e w6 ⟨qa, qn, qc, rfl, hoq, hb6⟩
        have hq8 : qn ≤ 8 := by have h1 := hoq.1; omega
        have HQ6 := Lib.hid (hoq.mono hbe.size)
        have hbf := hbe.trans (hb6.mono hbe.size)
        clear hJ hoq
        go_wp2
        go_ret
        exact ⟨qa, qn, qc, _, rfl, by omega, HQ6.out, hbf⟩
  | false =>
    have hW := l2Bent_any cu w2 hc2
    go_wp2_with fail
    refine hW.mono ?_
    rintro e w3 ⟨g, m, d, xs, rfl, hm, ho, hc3, ho3⟩
    have hbe := draw_below hcu hb1 (ho2.trans ho3)
    go_wp2
    go_ret
    exact ⟨_, m, d, xs, rfl, hm, ho.mono (Nat.le_trans hb1.size ho2.size), hbe⟩
end Go.Proofs.Ytmojniiimondfaa
namespace Go.Proofs.Ytmojniiimondfaa
open Go.RowKit

/-- What the parts of a permutation have. -/
structure SumFacts (xs : List Int) (b : Bool) (LA LB : List (List Int)) : Prop where
  perm : b = true → xs.length ≤ 8 ∧ (joinP false LA = xs ∧ JOk LA LA.length) ∧ (joinP true LB = xs ∧ JOk LB LB.length) ∧ ¬ (1 < LA.length ∧ 1 < LB.length)
  none : b = false → LA.length = 0 ∧ LB.length = 0
theorem sumFacts (xs : List Int) : SumFacts xs (decide (Perm8 xs)) (sumPsP xs) (skewPsP xs) := by
  refine ⟨fun h => ?_, fun h => ?_⟩
  · have hp : Perm8 xs := of_decide_eq_true h
    have e1 : sumPsP xs = sumPs xs := if_pos hp
    have e2 : skewPsP xs = skewPs xs := if_pos hp
    rw [e1, e2]
    refine ⟨hp.1, ⟨?_, jok_sum hp⟩, ⟨?_, jok_skew hp⟩, fun hh => not_both hp.2 hh.1 hh.2⟩
    · unfold joinP; rw [if_pos (jok_sum hp), join_sum hp.2]
    · unfold joinP; rw [if_pos (jok_skew hp), join_skew hp.2]
  · have hp : ¬ Perm8 xs := of_decide_eq_false h
    have e1 : sumPsP xs = [] := if_neg hp
    have e2 : skewPsP xs = [] := if_neg hp
    rw [e1, e2]; exact ⟨rfl, rfl⟩

set_option maxHeartbeats 4000000 in
set_option maxRecDepth 100000 in
theorem FnSums_walk (a : Option Addr) (n c : Nat) (z : Unit) {w : World} (hin : InBytes w a n c z) :
    Calls Try.prog 6 #[.slice a n c] w fun e w' => e = .returned (.bool true) ∧ Below w.heap.size w w' := by
  obtain ⟨hC, hnc, hcm⟩ := hin
  have hG := big_any a n c w (by omega)
  by_cases hbig : 1048576 < n
  · rw [decide_eq_true hbig] at hG
    clear hbig
    go_enter Try.func6, Try.ntmps6
    go_wp2_with fail
    refine hG.mono ?_
    rintro e w1 ⟨rfl, rfl⟩
    go_wp2
    go_ret
    exact ⟨rfl, Below.refl _ _⟩
  rw [decide_eq_false hbig] at hG
  have hn : n ≤ 1048576 := by omega
  have hcode := Lib.hid hC
  clear hbig hnc hcm hC
  go_enter Try.func6, Try.ntmps6
  go_wp2_with fail
  refine hG.mono ?_
  rintro e w1 ⟨rfl, hw1⟩
  obtain rfl : w = w1 := hw1.symm
  clear hG
  go_wp2_with fail
  refine (drawSumParts_any a n c _ hn hcode.out).mono ?_
  rintro e w1 ⟨ap, np, cp, xp, rfl, hmp, ho, hb1⟩
  have tcode := Lib.hid ((hcode.out.below hb1).mono hb1.size); clear hcode; have hcode := tcode; clear tcode
  have hB1 : Below w.heap.size w w1 := hb1
  have hp := Lib.hid (ho.sl (by omega)); clear ho
  clear hb1
  obtain ⟨b, hb0⟩ : ∃ b, b = decide (Perm8 xp) := ⟨_, rfl⟩
  obtain ⟨LA, hA0⟩ : ∃ LA, LA = sumPsP xp := ⟨_, rfl⟩
  obtain ⟨LB, hB0⟩ : ∃ LB, LB = skewPsP xp := ⟨_, rfl⟩
  have HAI : Hid (∀ W, SlI W ap np cp xp → Calls Try.prog 38 #[.slice ap np cp] W (RetII W LA)) := fun W h => by have t := impl_SumParts ap np cp xp W h; first | (rw [hA0]; exact t) | (rw [hB0]; exact t) | (rw [hb0]; exact t)
  have HAS : Hid (∀ W, SlI W ap np cp xp → Calls Try.prog 49 #[.slice ap np cp] W (RetII W LA)) := fun W h => by have t := spec_SumParts ap np cp xp W h; first | (rw [hA0]; exact t) | (rw [hB0]; exact t) | (rw [hb0]; exact t)
  have HBI : Hid (∀ W, SlI W ap np cp xp → Calls Try.prog 39 #[.slice ap np cp] W (RetII W LB)) := fun W h => by have t := impl_SkewParts ap np cp xp W h; first | (rw [hA0]; exact t) | (rw [hB0]; exact t) | (rw [hb0]; exact t)
  have HBS : Hid (∀ W, SlI W ap np cp xp → Calls Try.prog 50 #[.slice ap np cp] W (RetII W LB)) := fun W h => by have t := spec_SkewParts ap np cp xp W h; first | (rw [hA0]; exact t) | (rw [hB0]; exact t) | (rw [hb0]; exact t)
  have HPS : Hid (∀ W, SlI W ap np cp xp → Calls Try.prog 53 #[.slice ap np cp] W (RetV W (.bool b))) := fun W h => by have t := spec_IsPerm ap np cp xp W h; first | (rw [hA0]; exact t) | (rw [hB0]; exact t) | (rw [hb0]; exact t)
  have HAB : Hid (totL LA ≤ 2097152 ∧ LA.length ≤ 2097152) := by show _ ∧ _; rw [hA0]; exact bound_sumPsP xp
  have HBB : Hid (totL LB ≤ 2097152 ∧ LB.length ≤ 2097152) := by show _ ∧ _; rw [hB0]; exact bound_skewPsP xp
  have HX : Hid (SumFacts xp b LA LB) := by rw [hb0, hA0, hB0]; exact sumFacts xp
  clear hb0 hA0 hB0
  go_wp2_with fail
  refine (HAI.out _ hp.out).mono ?_
  rintro e w2 ⟨ala, nla, cla, rfl, ho, hb2⟩
  have tcode := Lib.hid ((hcode.out.below hb2).mono hb2.size); clear hcode; have hcode := tcode; clear tcode
  have tp := Lib.hid (hp.out.below hb2); clear hp; have hp := tp; clear tp
  have hB2 : Below w.heap.size w w2 := hB1.trans (hb2.mono hB1.size)
  have hla := Lib.hid (ho.iisT (HAB.out)); clear ho
  clear hb2
  go_wp2_with fail
  refine (HBI.out _ hp.out).mono ?_
  rintro e w3 ⟨alb, nlb, clb, rfl, ho, hb3⟩
  have tcode := Lib.hid ((hcode.out.below hb3).mono hb3.size); clear hcode; have hcode := tcode; clear tcode
  have tp := Lib.hid (hp.out.below hb3); clear hp; have hp := tp; clear tp
  have tla := Lib.hid (hla.out.below hb3); clear hla; have hla := tla; clear tla
  have hB3 : Below w.heap.size w w3 := hB2.trans (hb3.mono hB2.size)
  have hlb := Lib.hid (ho.iisT (HBB.out)); clear ho
  clear hb3
  go_wp2_with fail
  refine (drawSumOf_any a n c _ hn hcode.out).mono ?_
  rintro e w4 ⟨gx, nx, cx, xx, gy, ny, cy, xy, rfl, hmx, hmy, ho, ho2, hb4⟩
  have tcode := Lib.hid ((hcode.out.below hb4).mono hb4.size); clear hcode; have hcode := tcode; clear tcode
  have tp := Lib.hid (hp.out.below hb4); clear hp; have hp := tp; clear tp
  have tla := Lib.hid (hla.out.below hb4); clear hla; have hla := tla; clear tla
  have tlb := Lib.hid (hlb.out.below hb4); clear hlb; have hlb := tlb; clear tlb
  have hB4 : Below w.heap.size w w4 := hB3.trans (hb4.mono hB3.size)
  have hx := Lib.hid (ho.sl (by omega)); have hy := Lib.hid (ho2.sl (by omega)); clear ho ho2
  clear hb4
  obtain ⟨o, ho0⟩ : ∃ o, o = decide (SumOk xx xy) := ⟨_, rfl⟩
  have HSI : Hid (∀ W, SlI W (some ⟨gx, 0, none⟩) nx cx xx → SlI W (some ⟨gy, 0, none⟩) ny cy xy → Calls Try.prog 41 #[.slice (some ⟨gx, 0, none⟩) nx cx, .slice (some ⟨gy, 0, none⟩) ny cy] W (RetIB W (sumP false xx xy) o)) := fun W h k => by rw [ho0]; exact impl_SumOf (some ⟨gx, 0, none⟩) nx cx xx (some ⟨gy, 0, none⟩) ny cy xy W h k
  have HSS : Hid (∀ W, SlI W (some ⟨gx, 0, none⟩) nx cx xx → SlI W (some ⟨gy, 0, none⟩) ny cy xy → Calls Try.prog 42 #[.slice (some ⟨gx, 0, none⟩) nx cx, .slice (some ⟨gy, 0, none⟩) ny cy] W (RetIB W (sumP false xx xy) o)) := fun W h k => by rw [ho0]; exact spec_SumOf (some ⟨gx, 0, none⟩) nx cx xx (some ⟨gy, 0, none⟩) ny cy xy W h k
  have HKI : Hid (∀ W, SlI W (some ⟨gx, 0, none⟩) nx cx xx → SlI W (some ⟨gy, 0, none⟩) ny cy xy → Calls Try.prog 43 #[.slice (some ⟨gx, 0, none⟩) nx cx, .slice (some ⟨gy, 0, none⟩) ny cy] W (RetIB W (sumP true xx xy) o)) := fun W h k => by rw [ho0]; exact impl_SkewSumOf (some ⟨gx, 0, none⟩) nx cx xx (some ⟨gy, 0, none⟩) ny cy xy W h k
  have HKS : Hid (∀ W, SlI W (some ⟨gx, 0, none⟩) nx cx xx → SlI W (some ⟨gy, 0, none⟩) ny cy xy → Calls Try.prog 44 #[.slice (some ⟨gx, 0, none⟩) nx cx, .slice (some ⟨gy, 0, none⟩) ny cy] W (RetIB W (sumP true xx xy) o)) := fun W h k => by rw [ho0]; exact spec_SkewSumOf (some ⟨gx, 0, none⟩) nx cx xx (some ⟨gy, 0, none⟩) ny cy xy W h k
  have HOO : Hid (o = true → (sumPsP (sumP false xx xy)).length = (sumPsP xx).length + (sumPsP xy).length) := fun h => parts_sum (of_decide_eq_true (by rw [← ho0]; exact h))
  clear ho0
  go_wp2_with fail
  refine (HSI.out _ hx.out hy.out).mono ?_
  rintro e w5 ⟨aS, nS, cS, rfl, ho, hb5⟩
  have tcode := Lib.hid ((hcode.out.below hb5).mono hb5.size); clear hcode; have hcode := tcode; clear tcode
  have tp := Lib.hid (hp.out.below hb5); clear hp; have hp := tp; clear tp
  have tla := Lib.hid (hla.out.below hb5); clear hla; have hla := tla; clear tla
  have tlb := Lib.hid (hlb.out.below hb5); clear hlb; have hlb := tlb; clear tlb
  have tx := Lib.hid (hx.out.below hb5); clear hx; have hx := tx; clear tx
  have ty := Lib.hid (hy.out.below hb5); clear hy; have hy := ty; clear ty
  have hB5 : Below w.heap.size w w5 := hB4.trans (hb5.mono hB4.size)
  have hS := Lib.hid (ho.sl (by have h1 := ho.1; have h2 := length_sumP false xx xy; omega)); clear ho
  clear hb5
  go_wp2_with fail
  refine (HSS.out _ hx.out hy.out).mono ?_
  rintro e w6 ⟨aT, nT, cT, rfl, ho, hb6⟩
  have tcode := Lib.hid ((hcode.out.below hb6).mono hb6.size); clear hcode; have hcode := tcode; clear tcode
  have tp := Lib.hid (hp.out.below hb6); clear hp; have hp := tp; clear tp
  have tla := Lib.hid (hla.out.below hb6); clear hla; have hla := tla; clear tla
  have tlb := Lib.hid (hlb.out.below hb6); clear hlb; have hlb := tlb; clear tlb
  have tx := Lib.hid (hx.out.below hb6); clear hx; have hx := tx; clear tx
  have ty := Lib.hid (hy.out.below hb6); clear hy; have hy := ty; clear ty
  have tS := Lib.hid (hS.out.below hb6); clear hS; have hS := tS; clear tS
  have hB6 : Below w.heap.size w w6 := hB5.trans (hb6.mono hB5.size)
  have hT := Lib.hid (ho.sl (by have h1 := ho.1; have h2 := length_sumP false xx xy; omega)); clear ho
  clear hb6
  go_wp2_with fail
  refine (HKI.out _ hx.out hy.out).mono ?_
  rintro e w7 ⟨aU, nU, cU, rfl, ho, hb7⟩
  have tcode := Lib.hid ((hcode.out.below hb7).mono hb7.size); clear hcode; have hcode := tcode; clear tcode
  have tp := Lib.hid (hp.out.below hb7); clear hp; have hp := tp; clear tp
  have tla := Lib.hid (hla.out.below hb7); clear hla; have hla := tla; clear tla
  have tlb := Lib.hid (hlb.out.below hb7); clear hlb; have hlb := tlb; clear tlb
  have tx := Lib.hid (hx.out.below hb7); clear hx; have hx := tx; clear tx
  have ty := Lib.hid (hy.out.below hb7); clear hy; have hy := ty; clear ty
  have tS := Lib.hid (hS.out.below hb7); clear hS; have hS := tS; clear tS
  have tT := Lib.hid (hT.out.below hb7); clear hT; have hT := tT; clear tT
  have hB7 : Below w.heap.size w w7 := hB6.trans (hb7.mono hB6.size)
  have hU := Lib.hid (ho.sl (by have h1 := ho.1; have h2 := length_sumP true xx xy; omega)); clear ho
  clear hb7
  go_wp2_with fail
  refine (HKS.out _ hx.out hy.out).mono ?_
  rintro e w8 ⟨aV, nV, cV, rfl, ho, hb8⟩
  have tcode := Lib.hid ((hcode.out.below hb8).mono hb8.size); clear hcode; have hcode := tcode; clear tcode
  have tp := Lib.hid (hp.out.below hb8); clear hp; have hp := tp; clear tp
  have tla := Lib.hid (hla.out.below hb8); clear hla; have hla := tla; clear tla
  have tlb := Lib.hid (hlb.out.below hb8); clear hlb; have hlb := tlb; clear tlb
  have tx := Lib.hid (hx.out.below hb8); clear hx; have hx := tx; clear tx
  have ty := Lib.hid (hy.out.below hb8); clear hy; have hy := ty; clear ty
  have tS := Lib.hid (hS.out.below hb8); clear hS; have hS := tS; clear tS
  have tT := Lib.hid (hT.out.below hb8); clear hT; have hT := tT; clear tT
  have tU := Lib.hid (hU.out.below hb8); clear hU; have hU := tU; clear tU
  have hB8 : Below w.heap.size w w8 := hB7.trans (hb8.mono hB7.size)
  have hV := Lib.hid (ho.sl (by have h1 := ho.1; have h2 := length_sumP true xx xy; omega)); clear ho
  clear hb8
  go_wp2_with fail
  refine (drawJoinParts_any a n c _ hn hcode.out).mono ?_
  rintro e w9 ⟨am, nm, cm, xm, sk, rfl, HMB, ho, hb9⟩
  have tcode := Lib.hid ((hcode.out.below hb9).mono hb9.size); clear hcode; have hcode := tcode; clear tcode
  have tp := Lib.hid (hp.out.below hb9); clear hp; have hp := tp; clear tp
  have tla := Lib.hid (hla.out.below hb9); clear hla; have hla := tla; clear tla
  have tlb := Lib.hid (hlb.out.below hb9); clear hlb; have hlb := tlb; clear tlb
  have tx := Lib.hid (hx.out.below hb9); clear hx; have hx := tx; clear tx
  have ty := Lib.hid (hy.out.below hb9); clear hy; have hy := ty; clear ty
  have tS := Lib.hid (hS.out.below hb9); clear hS; have hS := tS; clear tS
  have tT := Lib.hid (hT.out.below hb9); clear hT; have hT := tT; clear tT
  have tU := Lib.hid (hU.out.below hb9); clear hU; have hU := tU; clear tU
  have tV := Lib.hid (hV.out.below hb9); clear hV; have hV := tV; clear tV
  have hB9 : Below w.heap.size w w9 := hB8.trans (hb9.mono hB8.size)
  have hm := Lib.hid (ho.iisT ⟨by have := HMB.out; omega, by have := HMB.out; omega⟩); clear ho
  clear hb9
  obtain ⟨f, hf0⟩ : ∃ f, f = decide (JOk xm xm.length) := ⟨_, rfl⟩
  have HJI : Hid (∀ W, IIs W am nm cm xm → Calls Try.prog 46 #[.slice am nm cm, .bool sk] W (RetIB W (joinP sk xm) f)) := fun W h => by rw [hf0]; exact impl_JoinParts am nm cm xm sk W h
  have HJS : Hid (∀ W, IIs W am nm cm xm → Calls Try.prog 47 #[.slice am nm cm, .bool sk] W (RetIB W (joinP sk xm) f)) := fun W h => by rw [hf0]; exact spec_JoinParts am nm cm xm sk W h
  clear hf0
  go_wp2_with fail
  refine (HJI.out _ hm.out).mono ?_
  rintro e w10 ⟨aj, nj, cj, rfl, ho, hb10⟩
  have tcode := Lib.hid ((hcode.out.below hb10).mono hb10.size); clear hcode; have hcode := tcode; clear tcode
  have tp := Lib.hid (hp.out.below hb10); clear hp; have hp := tp; clear tp
  have tla := Lib.hid (hla.out.below hb10); clear hla; have hla := tla; clear tla
  have tlb := Lib.hid (hlb.out.below hb10); clear hlb; have hlb := tlb; clear tlb
  have tx := Lib.hid (hx.out.below hb10); clear hx; have hx := tx; clear tx
  have ty := Lib.hid (hy.out.below hb10); clear hy; have hy := ty; clear ty
  have tS := Lib.hid (hS.out.below hb10); clear hS; have hS := tS; clear tS
  have tT := Lib.hid (hT.out.below hb10); clear hT; have hT := tT; clear tT
  have tU := Lib.hid (hU.out.below hb10); clear hU; have hU := tU; clear tU
  have tV := Lib.hid (hV.out.below hb10); clear hV; have hV := tV; clear tV
  have tm := Lib.hid (hm.out.below hb10); clear hm; have hm := tm; clear tm
  have hB10 : Below w.heap.size w w10 := hB9.trans (hb10.mono hB9.size)
  have hj := Lib.hid (ho.sl (by have h1 := ho.1; have h2 := length_joinP sk xm; omega)); clear ho
  clear hb10
  go_wp2_with fail
  refine (HJS.out _ hm.out).mono ?_
  rintro e w11 ⟨ak, nk, ck, rfl, ho, hb11⟩
  have tcode := Lib.hid ((hcode.out.below hb11).mono hb11.size); clear hcode; have hcode := tcode; clear tcode
  have tp := Lib.hid (hp.out.below hb11); clear hp; have hp := tp; clear tp
  have tla := Lib.hid (hla.out.below hb11); clear hla; have hla := tla; clear tla
  have tlb := Lib.hid (hlb.out.below hb11); clear hlb; have hlb := tlb; clear tlb
  have tx := Lib.hid (hx.out.below hb11); clear hx; have hx := tx; clear tx
  have ty := Lib.hid (hy.out.below hb11); clear hy; have hy := ty; clear ty
  have tS := Lib.hid (hS.out.below hb11); clear hS; have hS := tS; clear tS
  have tT := Lib.hid (hT.out.below hb11); clear hT; have hT := tT; clear tT
  have tU := Lib.hid (hU.out.below hb11); clear hU; have hU := tU; clear tU
  have tV := Lib.hid (hV.out.below hb11); clear hV; have hV := tV; clear tV
  have tm := Lib.hid (hm.out.below hb11); clear hm; have hm := tm; clear tm
  have tj := Lib.hid (hj.out.below hb11); clear hj; have hj := tj; clear tj
  have hB11 : Below w.heap.size w w11 := hB10.trans (hb11.mono hB10.size)
  have hk := Lib.hid (ho.sl (by have h1 := ho.1; have h2 := length_joinP sk xm; omega)); clear ho
  clear hb11
  clear hm
  go_wp2_with fail
  refine (drawIsLayered_any a n c _ hn hcode.out).mono ?_
  rintro e w12 ⟨ai, ni, ci, xi, rfl, hmi, ho, hb12⟩
  have tcode := Lib.hid ((hcode.out.below hb12).mono hb12.size); clear hcode; have hcode := tcode; clear tcode
  have tp := Lib.hid (hp.out.below hb12); clear hp; have hp := tp; clear tp
  have tla := Lib.hid (hla.out.below hb12); clear hla; have hla := tla; clear tla
  have tlb := Lib.hid (hlb.out.below hb12); clear hlb; have hlb := tlb; clear tlb
  have tx := Lib.hid (hx.out.below hb12); clear hx; have hx := tx; clear tx
  have ty := Lib.hid (hy.out.below hb12); clear hy; have hy := ty; clear ty
  have tS := Lib.hid (hS.out.below hb12); clear hS; have hS := tS; clear tS
  have tT := Lib.hid (hT.out.below hb12); clear hT; have hT := tT; clear tT
  have tU := Lib.hid (hU.out.below hb12); clear hU; have hU := tU; clear tU
  have tV := Lib.hid (hV.out.below hb12); clear hV; have hV := tV; clear tV
  have tj := Lib.hid (hj.out.below hb12); clear hj; have hj := tj; clear tj
  have tk := Lib.hid (hk.out.below hb12); clear hk; have hk := tk; clear tk
  have hB12 : Below w.heap.size w w12 := hB11.trans (hb12.mono hB11.size)
  have hi := Lib.hid (ho.sl (by omega)); clear ho
  clear hb12
  clear hcode
  go_wp2_with fail
  refine (HAS.out _ hp.out).mono ?_
  rintro e w13 ⟨al1, nl1, cl1, rfl, ho, hb13⟩
  have tp := Lib.hid (hp.out.below hb13); clear hp; have hp := tp; clear tp
  have tla := Lib.hid (hla.out.below hb13); clear hla; have hla := tla; clear tla
  have tlb := Lib.hid (hlb.out.below hb13); clear hlb; have hlb := tlb; clear tlb
  have tx := Lib.hid (hx.out.below hb13); clear hx; have hx := tx; clear tx
  have ty := Lib.hid (hy.out.below hb13); clear hy; have hy := ty; clear ty
  have tS := Lib.hid (hS.out.below hb13); clear hS; have hS := tS; clear tS
  have tT := Lib.hid (hT.out.below hb13); clear hT; have hT := tT; clear tT
  have tU := Lib.hid (hU.out.below hb13); clear hU; have hU := tU; clear tU
  have tV := Lib.hid (hV.out.below hb13); clear hV; have hV := tV; clear tV
  have tj := Lib.hid (hj.out.below hb13); clear hj; have hj := tj; clear tj
  have tk := Lib.hid (hk.out.below hb13); clear hk; have hk := tk; clear tk
  have ti := Lib.hid (hi.out.below hb13); clear hi; have hi := ti; clear ti
  have hB13 : Below w.heap.size w w13 := hB12.trans (hb13.mono hB12.size)
  have hl1 := Lib.hid (ho.iisT (HAB.out)); clear ho
  clear hb13
  go_wp2_with fail
  refine (sameLists_same ala al1 nla nl1 cla cl1 _ _ hla.out hl1.out).mono ?_
  rintro e w14 ⟨rfl, hb14⟩
  have tp := Lib.hid (hp.out.below hb14); clear hp; have hp := tp; clear tp
  have tla := Lib.hid (hla.out.below hb14); clear hla; have hla := tla; clear tla
  have tlb := Lib.hid (hlb.out.below hb14); clear hlb; have hlb := tlb; clear tlb
  have tx := Lib.hid (hx.out.below hb14); clear hx; have hx := tx; clear tx
  have ty := Lib.hid (hy.out.below hb14); clear hy; have hy := ty; clear ty
  have tS := Lib.hid (hS.out.below hb14); clear hS; have hS := tS; clear tS
  have tT := Lib.hid (hT.out.below hb14); clear hT; have hT := tT; clear tT
  have tU := Lib.hid (hU.out.below hb14); clear hU; have hU := tU; clear tU
  have tV := Lib.hid (hV.out.below hb14); clear hV; have hV := tV; clear tV
  have tj := Lib.hid (hj.out.below hb14); clear hj; have hj := tj; clear tj
  have tk := Lib.hid (hk.out.below hb14); clear hk; have hk := tk; clear tk
  have ti := Lib.hid (hi.out.below hb14); clear hi; have hi := ti; clear ti
  have tl1 := Lib.hid (hl1.out.below hb14); clear hl1; have hl1 := tl1; clear tl1
  have hB14 : Below w.heap.size w w14 := hB13.trans (hb14.mono hB13.size)
  clear hb14
  clear hl1
  go_wp2_with fail
  refine (HBS.out _ hp.out).mono ?_
  rintro e w15 ⟨al2, nl2, cl2, rfl, ho, hb15⟩
  have tp := Lib.hid (hp.out.below hb15); clear hp; have hp := tp; clear tp
  have tla := Lib.hid (hla.out.below hb15); clear hla; have hla := tla; clear tla
  have tlb := Lib.hid (hlb.out.below hb15); clear hlb; have hlb := tlb; clear tlb
  have tx := Lib.hid (hx.out.below hb15); clear hx; have hx := tx; clear tx
  have ty := Lib.hid (hy.out.below hb15); clear hy; have hy := ty; clear ty
  have tS := Lib.hid (hS.out.below hb15); clear hS; have hS := tS; clear tS
  have tT := Lib.hid (hT.out.below hb15); clear hT; have hT := tT; clear tT
  have tU := Lib.hid (hU.out.below hb15); clear hU; have hU := tU; clear tU
  have tV := Lib.hid (hV.out.below hb15); clear hV; have hV := tV; clear tV
  have tj := Lib.hid (hj.out.below hb15); clear hj; have hj := tj; clear tj
  have tk := Lib.hid (hk.out.below hb15); clear hk; have hk := tk; clear tk
  have ti := Lib.hid (hi.out.below hb15); clear hi; have hi := ti; clear ti
  have hB15 : Below w.heap.size w w15 := hB14.trans (hb15.mono hB14.size)
  have hl2 := Lib.hid (ho.iisT (HBB.out)); clear ho
  clear hb15
  go_wp2_with fail
  refine (sameLists_same alb al2 nlb nl2 clb cl2 _ _ hlb.out hl2.out).mono ?_
  rintro e w16 ⟨rfl, hb16⟩
  have tp := Lib.hid (hp.out.below hb16); clear hp; have hp := tp; clear tp
  have tla := Lib.hid (hla.out.below hb16); clear hla; have hla := tla; clear tla
  have tlb := Lib.hid (hlb.out.below hb16); clear hlb; have hlb := tlb; clear tlb
  have tx := Lib.hid (hx.out.below hb16); clear hx; have hx := tx; clear tx
  have ty := Lib.hid (hy.out.below hb16); clear hy; have hy := ty; clear ty
  have tS := Lib.hid (hS.out.below hb16); clear hS; have hS := tS; clear tS
  have tT := Lib.hid (hT.out.below hb16); clear hT; have hT := tT; clear tT
  have tU := Lib.hid (hU.out.below hb16); clear hU; have hU := tU; clear tU
  have tV := Lib.hid (hV.out.below hb16); clear hV; have hV := tV; clear tV
  have tj := Lib.hid (hj.out.below hb16); clear hj; have hj := tj; clear tj
  have tk := Lib.hid (hk.out.below hb16); clear hk; have hk := tk; clear tk
  have ti := Lib.hid (hi.out.below hb16); clear hi; have hi := ti; clear ti
  have tl2 := Lib.hid (hl2.out.below hb16); clear hl2; have hl2 := tl2; clear tl2
  have hB16 : Below w.heap.size w w16 := hB15.trans (hb16.mono hB15.size)
  clear hb16
  clear hl2
  go_wp2_with fail
  refine (sameInts_same aS aT nS nT cS cT _ _ hS.out hT.out).mono ?_
  rintro e w17 ⟨rfl, hb17⟩
  have tp := Lib.hid (hp.out.below hb17); clear hp; have hp := tp; clear tp
  have tla := Lib.hid (hla.out.below hb17); clear hla; have hla := tla; clear tla
  have tlb := Lib.hid (hlb.out.below hb17); clear hlb; have hlb := tlb; clear tlb
  have tx := Lib.hid (hx.out.below hb17); clear hx; have hx := tx; clear tx
  have ty := Lib.hid (hy.out.below hb17); clear hy; have hy := ty; clear ty
  have tS := Lib.hid (hS.out.below hb17); clear hS; have hS := tS; clear tS
  have tT := Lib.hid (hT.out.below hb17); clear hT; have hT := tT; clear tT
  have tU := Lib.hid (hU.out.below hb17); clear hU; have hU := tU; clear tU
  have tV := Lib.hid (hV.out.below hb17); clear hV; have hV := tV; clear tV
  have tj := Lib.hid (hj.out.below hb17); clear hj; have hj := tj; clear tj
  have tk := Lib.hid (hk.out.below hb17); clear hk; have hk := tk; clear tk
  have ti := Lib.hid (hi.out.below hb17); clear hi; have hi := ti; clear ti
  have hB17 : Below w.heap.size w w17 := hB16.trans (hb17.mono hB16.size)
  clear hb17
  clear hT
  go_wp2_with fail
  refine (sameInts_same aU aV nU nV cU cV _ _ hU.out hV.out).mono ?_
  rintro e w18 ⟨rfl, hb18⟩
  have tp := Lib.hid (hp.out.below hb18); clear hp; have hp := tp; clear tp
  have tla := Lib.hid (hla.out.below hb18); clear hla; have hla := tla; clear tla
  have tlb := Lib.hid (hlb.out.below hb18); clear hlb; have hlb := tlb; clear tlb
  have tx := Lib.hid (hx.out.below hb18); clear hx; have hx := tx; clear tx
  have ty := Lib.hid (hy.out.below hb18); clear hy; have hy := ty; clear ty
  have tS := Lib.hid (hS.out.below hb18); clear hS; have hS := tS; clear tS
  have tU := Lib.hid (hU.out.below hb18); clear hU; have hU := tU; clear tU
  have tV := Lib.hid (hV.out.below hb18); clear hV; have hV := tV; clear tV
  have tj := Lib.hid (hj.out.below hb18); clear hj; have hj := tj; clear tj
  have tk := Lib.hid (hk.out.below hb18); clear hk; have hk := tk; clear tk
  have ti := Lib.hid (hi.out.below hb18); clear hi; have hi := ti; clear ti
  have hB18 : Below w.heap.size w w18 := hB17.trans (hb18.mono hB17.size)
  clear hb18
  clear hU
  clear hV
  go_wp2_with fail
  refine (sameInts_same aj ak nj nk cj ck _ _ hj.out hk.out).mono ?_
  rintro e w19 ⟨rfl, hb19⟩
  have tp := Lib.hid (hp.out.below hb19); clear hp; have hp := tp; clear tp
  have tla := Lib.hid (hla.out.below hb19); clear hla; have hla := tla; clear tla
  have tlb := Lib.hid (hlb.out.below hb19); clear hlb; have hlb := tlb; clear tlb
  have tx := Lib.hid (hx.out.below hb19); clear hx; have hx := tx; clear tx
  have ty := Lib.hid (hy.out.below hb19); clear hy; have hy := ty; clear ty
  have tS := Lib.hid (hS.out.below hb19); clear hS; have hS := tS; clear tS
  have tj := Lib.hid (hj.out.below hb19); clear hj; have hj := tj; clear tj
  have tk := Lib.hid (hk.out.below hb19); clear hk; have hk := tk; clear tk
  have ti := Lib.hid (hi.out.below hb19); clear hi; have hi := ti; clear ti
  have hB19 : Below w.heap.size w w19 := hB18.trans (hb19.mono hB18.size)
  clear hb19
  clear hj
  clear hk
  go_wp2_with fail
  refine (impl_IsLayered ai ni ci xi _ hi.out).mono ?_
  rintro e w20 ⟨rfl, hb20⟩
  have tp := Lib.hid (hp.out.below hb20); clear hp; have hp := tp; clear tp
  have tla := Lib.hid (hla.out.below hb20); clear hla; have hla := tla; clear tla
  have tlb := Lib.hid (hlb.out.below hb20); clear hlb; have hlb := tlb; clear tlb
  have tx := Lib.hid (hx.out.below hb20); clear hx; have hx := tx; clear tx
  have ty := Lib.hid (hy.out.below hb20); clear hy; have hy := ty; clear ty
  have tS := Lib.hid (hS.out.below hb20); clear hS; have hS := tS; clear tS
  have ti := Lib.hid (hi.out.below hb20); clear hi; have hi := ti; clear ti
  have hB20 : Below w.heap.size w w20 := hB19.trans (hb20.mono hB19.size)
  clear hb20
  go_wp2_with fail
  refine (spec_IsLayered ai ni ci xi _ hi.out).mono ?_
  rintro e w21 ⟨rfl, hb21⟩
  have tp := Lib.hid (hp.out.below hb21); clear hp; have hp := tp; clear tp
  have tla := Lib.hid (hla.out.below hb21); clear hla; have hla := tla; clear tla
  have tlb := Lib.hid (hlb.out.below hb21); clear hlb; have hlb := tlb; clear tlb
  have tx := Lib.hid (hx.out.below hb21); clear hx; have hx := tx; clear tx
  have ty := Lib.hid (hy.out.below hb21); clear hy; have hy := ty; clear ty
  have tS := Lib.hid (hS.out.below hb21); clear hS; have hS := tS; clear tS
  have ti := Lib.hid (hi.out.below hb21); clear hi; have hi := ti; clear ti
  have hB21 : Below w.heap.size w w21 := hB20.trans (hb21.mono hB20.size)
  clear hb21
  clear hi
  go_wp2_with fail
  refine (HPS.out _ hp.out).mono ?_
  rintro e w22 ⟨rfl, hb22⟩
  have tp := Lib.hid (hp.out.below hb22); clear hp; have hp := tp; clear tp
  have tla := Lib.hid (hla.out.below hb22); clear hla; have hla := tla; clear tla
  have tlb := Lib.hid (hlb.out.below hb22); clear hlb; have hlb := tlb; clear tlb
  have tx := Lib.hid (hx.out.below hb22); clear hx; have hx := tx; clear tx
  have ty := Lib.hid (hy.out.below hb22); clear hy; have hy := ty; clear ty
  have tS := Lib.hid (hS.out.below hb22); clear hS; have hS := tS; clear tS
  have hB22 : Below w.heap.size w w22 := hB21.trans (hb22.mono hB21.size)
  clear hb22
  have ela : LA.length = nla := hla.out.2.1
  have elb : LB.length = nlb := hlb.out.2.1
  cases b with
  | true =>
    obtain ⟨hx8, HJ1, HJ2, hnb⟩ := HX.out.perm rfl
    have HJ1h : Hid (∀ W a n c, IIs W a n c LA → Calls Try.prog 46 #[.slice a n c, .bool false] W (RetIB W xp true)) := fun W a n c h => by have t := impl_JoinParts a n c LA false W h; rw [HJ1.1, decide_eq_true HJ1.2] at t; exact t
    have HJ2h : Hid (∀ W a n c, IIs W a n c LB → Calls Try.prog 46 #[.slice a n c, .bool true] W (RetIB W xp true)) := fun W a n c h => by have t := impl_JoinParts a n c LB true W h; rw [HJ2.1, decide_eq_true HJ2.2] at t; exact t
    rw [ela, elb] at hnb
    clear HJ1 HJ2 ela elb
    go_wp2_with fail
    refine (HJ1h.out _ ala nla cla hla.out).mono ?_
    rintro e w23 ⟨ac1, nc1, cc1, rfl, ho, hb23⟩
    have tp := Lib.hid (hp.out.below hb23); clear hp; have hp := tp; clear tp
    have tla := Lib.hid (hla.out.below hb23); clear hla; have hla := tla; clear tla
    have tlb := Lib.hid (hlb.out.below hb23); clear hlb; have hlb := tlb; clear tlb
    have tx := Lib.hid (hx.out.below hb23); clear hx; have hx := tx; clear tx
    have ty := Lib.hid (hy.out.below hb23); clear hy; have hy := ty; clear ty
    have tS := Lib.hid (hS.out.below hb23); clear hS; have hS := tS; clear tS
    have hB23 : Below w.heap.size w w23 := hB22.trans (hb23.mono hB22.size)
    have hc1 := Lib.hid (ho.sl (by have h1 := ho.1; have h2 := hx8; omega)); clear ho
    clear hb23
    go_wp2_with fail
    refine (HJ2h.out _ alb nlb clb hlb.out).mono ?_
    rintro e w24 ⟨ad1, nd1, cd1, rfl, ho, hb24⟩
    have tp := Lib.hid (hp.out.below hb24); clear hp; have hp := tp; clear tp
    have tla := Lib.hid (hla.out.below hb24); clear hla; have hla := tla; clear tla
    have tlb := Lib.hid (hlb.out.below hb24); clear hlb; have hlb := tlb; clear tlb
    have tx := Lib.hid (hx.out.below hb24); clear hx; have hx := tx; clear tx
    have ty := Lib.hid (hy.out.below hb24); clear hy; have hy := ty; clear ty
    have tS := Lib.hid (hS.out.below hb24); clear hS; have hS := tS; clear tS
    have tc1 := Lib.hid (hc1.out.below hb24); clear hc1; have hc1 := tc1; clear tc1
    have hB24 : Below w.heap.size w w24 := hB23.trans (hb24.mono hB23.size)
    have hd1 := Lib.hid (ho.sl (by have h1 := ho.1; have h2 := hx8; omega)); clear ho
    clear hb24
    go_wp2_with fail
    refine (sameInts_same ac1 ap nc1 np cc1 cp _ _ hc1.out hp.out).mono ?_
    rintro e w25 ⟨rfl, hb25⟩
    have tp := Lib.hid (hp.out.below hb25); clear hp; have hp := tp; clear tp
    have tla := Lib.hid (hla.out.below hb25); clear hla; have hla := tla; clear tla
    have tlb := Lib.hid (hlb.out.below hb25); clear hlb; have hlb := tlb; clear tlb
    have tx := Lib.hid (hx.out.below hb25); clear hx; have hx := tx; clear tx
    have ty := Lib.hid (hy.out.below hb25); clear hy; have hy := ty; clear ty
    have tS := Lib.hid (hS.out.below hb25); clear hS; have hS := tS; clear tS
    have tc1 := Lib.hid (hc1.out.below hb25); clear hc1; have hc1 := tc1; clear tc1
    have td1 := Lib.hid (hd1.out.below hb25); clear hd1; have hd1 := td1; clear td1
    have hB25 : Below w.heap.size w w25 := hB24.trans (hb25.mono hB24.size)
    clear hb25
    clear hc1
    go_wp2_with fail
    refine (sameInts_same ad1 ap nd1 np cd1 cp _ _ hd1.out hp.out).mono ?_
    rintro e w26 ⟨rfl, hb26⟩
    have tp := Lib.hid (hp.out.below hb26); clear hp; have hp := tp; clear tp
    have tla := Lib.hid (hla.out.below hb26); clear hla; have hla := tla; clear tla
    have tlb := Lib.hid (hlb.out.below hb26); clear hlb; have hlb := tlb; clear tlb
    have tx := Lib.hid (hx.out.below hb26); clear hx; have hx := tx; clear tx
    have ty := Lib.hid (hy.out.below hb26); clear hy; have hy := ty; clear ty
    have tS := Lib.hid (hS.out.below hb26); clear hS; have hS := tS; clear tS
    have td1 := Lib.hid (hd1.out.below hb26); clear hd1; have hd1 := td1; clear td1
    have hB26 : Below w.heap.size w w26 := hB25.trans (hb26.mono hB25.size)
    clear hb26
    clear hd1
    have hdec : ((1 : Int) < (nla : Int) ∧ ¬ ((1 : Int) < (nlb : Int))) ∨ ¬ ((1 : Int) < (nla : Int)) := by omega
    clear hnb
    rcases hdec with ⟨q1, q2⟩ | q1
    all_goals
      clear hla
      clear hlb
      cases o with
      | true =>
        have hE := HOO.out rfl
        go_wp2_with fail
        refine (impl_SumParts aS nS cS (sumP false xx xy) _ hS.out).mono ?_
        rintro e w27 ⟨an1, nn1, cn1, rfl, ho, hb27⟩
        have tp := Lib.hid (hp.out.below hb27); clear hp; have hp := tp; clear tp
        have tx := Lib.hid (hx.out.below hb27); clear hx; have hx := tx; clear tx
        have ty := Lib.hid (hy.out.below hb27); clear hy; have hy := ty; clear ty
        have tS := Lib.hid (hS.out.below hb27); clear hS; have hS := tS; clear tS
        have hB27 : Below w.heap.size w w27 := hB26.trans (hb27.mono hB26.size)
        have hn1 := Lib.hid (ho.iisT (bound_sumPsP _)); clear ho
        clear hb27
        go_wp2_with fail
        refine (spec_SumParts (some ⟨gx, 0, none⟩) nx cx xx _ hx.out).mono ?_
        rintro e w28 ⟨an2, nn2, cn2, rfl, ho, hb28⟩
        have tp := Lib.hid (hp.out.below hb28); clear hp; have hp := tp; clear tp
        have tx := Lib.hid (hx.out.below hb28); clear hx; have hx := tx; clear tx
        have ty := Lib.hid (hy.out.below hb28); clear hy; have hy := ty; clear ty
        have tS := Lib.hid (hS.out.below hb28); clear hS; have hS := tS; clear tS
        have tn1 := Lib.hid (hn1.out.below hb28); clear hn1; have hn1 := tn1; clear tn1
        have hB28 : Below w.heap.size w w28 := hB27.trans (hb28.mono hB27.size)
        have hn2 := Lib.hid (ho.iisT (bound_sumPsP xx)); clear ho
        clear hb28
        go_wp2_with fail
        refine (spec_SumParts (some ⟨gy, 0, none⟩) ny cy xy _ hy.out).mono ?_
        rintro e w29 ⟨an3, nn3, cn3, rfl, ho, hb29⟩
        have tp := Lib.hid (hp.out.below hb29); clear hp; have hp := tp; clear tp
        have tx := Lib.hid (hx.out.below hb29); clear hx; have hx := tx; clear tx
        have ty := Lib.hid (hy.out.below hb29); clear hy; have hy := ty; clear ty
        have tS := Lib.hid (hS.out.below hb29); clear hS; have hS := tS; clear tS
        have tn1 := Lib.hid (hn1.out.below hb29); clear hn1; have hn1 := tn1; clear tn1
        have tn2 := Lib.hid (hn2.out.below hb29); clear hn2; have hn2 := tn2; clear tn2
        have hB29 : Below w.heap.size w w29 := hB28.trans (hb29.mono hB28.size)
        have hn3 := Lib.hid (ho.iisT (bound_sumPsP xy)); clear ho
        clear hb29
        have e1 : (sumPsP (sumP false xx xy)).length = nn1 := hn1.out.2.1
        have e2 : (sumPsP xx).length = nn2 := hn2.out.2.1
        have e3 : (sumPsP xy).length = nn3 := hn3.out.2.1
        have z2 := (bound_sumPsP xx).2; have z3 := (bound_sumPsP xy).2
        obtain rfl : nn1 = nn2 + nn3 := by omega
        rw [e2] at z2; rw [e3] at z3
        clear e1 e2 e3 hE
        go_wp2
        go_ret
        exact ⟨by first | rfl | exact ret_bool (by simp) | exact ret_bool (by simp; omega), hB29⟩
      | false =>
        go_wp2
        go_ret
        exact ⟨rfl, hB26⟩
  | false =>
    obtain ⟨z1, z2⟩ := HX.out.none rfl
    obtain rfl : nla = 0 := by omega
    obtain rfl : nlb = 0 := by omega
    clear z1 z2 ela elb
    go_wp2
    go_ret
    exact ⟨rfl, hB22⟩
end Go.Proofs.Ytmojniiimondfaa
