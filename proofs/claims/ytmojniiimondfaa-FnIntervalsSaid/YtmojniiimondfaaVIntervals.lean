/- One text of several, for a claim has at most sixty files. The comparisons of the laws: sameInts, sameLists, straight, hasList. No condition. The draws of permutations. Condition: the code is at most 2^20 bytes. Permutations in plain lists: the inverse, and what the text reads. No condition. The draws of the symmetries. Condition: the code is at most 2^20 bytes. The draws of the sums. Condition: the code is at most 2^20 bytes. Intervals in plain lists: the closure is one, all that are listed are, the blocks of an inflation are. No condition. The draws of the intervals. Condition: the code is at most 2^20 bytes. The draws of the intervals, second part. Condition: the code is at most 2^20 bytes. The walk of the law FnIntervals: it returns true, and writes to nothing that was there. No condition. -/
import Derived.Test.YtmojniiimondfaaF05
import Derived.Test.YtmojniiimondfaaII
import Derived.Test.YtmojniiimondfaaD04
import Derived.Test.YtmojniiimondfaaF17
import Derived.Test.YtmojniiimondfaaF03
import Derived.Test.YtmojniiimondfaaF23
import Derived.Test.YtmojniiimondfaaF33
import Derived.Test.YtmojniiimondfaaF42
import Derived.Test.YtmojniiimondfaaF13
import Derived.Test.YtmojniiimondfaaF35
import Derived.Test.YtmojniiimondfaaF43
import Derived.Test.YtmojniiimondfaaS03
import Derived.Test.YtmojniiimondfaaF19
import Derived.Test.YtmojniiimondfaaF37
import Derived.OwnWalk
import Derived.Test.YtmojniiimondfaaD03
import Derived.Deep.RegionHeld3
import Derived.Test.YtmojniiimondfaaF44
namespace Go.Proofs.Ytmojniiimondfaa
open Go.RowKit

set_option maxHeartbeats 400000 in
theorem sameIntsQ_any (a b : Option Addr) (n m c d : Nat) (xs ys : List Int) (w : World) (ha : Ints w a xs) (hb : Ints w b ys) (hn : xs.length = n) (hm : ys.length = m) (_hnb : n ≤ 2097152) (_hmb : m ≤ 2097152) :
    Calls Try.prog 28 #[.slice a n c, .slice b m d] w fun e w' => e = .returned (.bool (decide (xs = ys))) ∧ Quiet w w' := by
  have HN := Lib.hid hn; clear hn
  have HM := Lib.hid hm; clear hm
  by_cases hnm : n = m
  · subst hnm
    go_enter Try.func28, Try.ntmps28
    go_wp2
    go_loopw [5] (fun i wr => ∃ k : Nat, k ≤ n ∧ i = .int .i64 k ∧ Hid (xs.take k = ys.take k) ∧ ∃ q, wr = w.drewN q) (fun i _ => n - (intOf i).toNat)
    case atStart => exact ⟨0, Nat.zero_le _, rfl, by simp [Hid], 0, rfl⟩
    case round =>
      obtain ⟨k, hk, rfl, ht, q, rfl⟩ := hrel
      by_cases hlt : k < n
      · obtain ⟨ab, ao, x, rfl, hx, HX⟩ := ha.at (i := k) (by rw [HN.out]; exact hlt)
        obtain ⟨bb, bo, y, rfl, hy, HY⟩ := hb.at (i := k) (by rw [HM.out]; exact hlt)
        go_wp2
        go_quiet (fail)
        by_cases hxy : x = y
        · have ht' : Hid (xs.take (k + 1) = ys.take (k + 1)) := take_eq_succ ht.out HX.out HY.out hxy
          go_wp2
          go_roundw
          case rel => exact ⟨k + 1, by omega, by go_num, ht', _, rfl⟩
          case measure => simp [intOf]; omega
        · have hf : Hid (xs ≠ ys) := fun h => hxy (by have h1 := HX.out; have h2 := HY.out; rw [h] at h1; rw [h1] at h2; exact Option.some.inj h2)
          go_wp2
          go_ret
          exact ⟨ret_bool (decide_eq_false hf.out).symm, ((Quiet.refl _).drewN _).drewN _⟩
      · have hf : Hid (xs = ys) := by
          have e1 := HN.out; have e2 := HM.out; have e3 := ht.out
          have : k = n := by omega
          subst this
          rwa [List.take_of_length_le (by omega), List.take_of_length_le (by omega)] at e3
        go_wp2
        go_ret
        exact ⟨ret_bool (decide_eq_true hf.out).symm, (Quiet.refl _).drewN _⟩
  · have hf : Hid (xs ≠ ys) := fun h => hnm (by rw [← HN.out, ← HM.out, h])
    go_enter Try.func28, Try.ntmps28
    go_wp2
    go_ret
    exact ⟨ret_bool (decide_eq_false hf.out).symm, Quiet.refl _⟩

theorem sameInts_any (a b : Option Addr) (n m c d : Nat) (xs ys : List Int) (w : World) (ha : SlI w a n c xs) (hb : SlI w b m d ys) :
    Calls Try.prog 28 #[.slice a n c, .slice b m d] w (RetV w (.bool (decide (xs = ys)))) :=
  (sameIntsQ_any a b n m c d xs ys w ha.1 hb.1 ha.2.1 hb.2.1 ha.2.2.1 hb.2.2.1).mono fun _ _ h => retV_quiet h
theorem sameInts_same (a b : Option Addr) (n m c d : Nat) (xs : List Int) (w : World) (ha : SlI w a n c xs) (hb : SlI w b m d xs) :
    Calls Try.prog 28 #[.slice a n c, .slice b m d] w (RetV w (.bool true)) := by
  have h := sameInts_any a b n m c d xs xs w ha hb
  rwa [decide_eq_true rfl] at h

set_option maxHeartbeats 400000 in
theorem sameLists_same (a b : Option Addr) (n m c d : Nat) (xss : List (List Int)) (w : World) (ha : IIs w a n c xss) (hb : IIs w b m d xss) :
    Calls Try.prog 33 #[.slice a n c, .slice b m d] w (RetV w (.bool true)) := by
  obtain rfl : n = m := by rw [← ha.2.1, hb.2.1]
  have hnb := ha.2.2.1
  have Q0 : Calls Try.prog 33 #[.slice a n c, .slice b n d] w (fun e w' => e = .returned (.bool true) ∧ Quiet w w') := by
    go_enter Try.func33, Try.ntmps33
    go_wp2
    go_loopw [5] (fun i wr => ∃ k : Nat, k ≤ n ∧ i = .int .i64 k ∧ Quiet w wr) (fun i _ => n - (intOf i).toNat)
    case atStart => exact ⟨0, Nat.zero_le _, rfl, Quiet.refl _⟩
    case round =>
      obtain ⟨k, hk, rfl, hq⟩ := hrel
      by_cases hlt : k < n
      · obtain ⟨ab, ao, ra, rn, rc, xs, rfl, hx, hr, HX⟩ := (ha.quiet hq).at hlt
        obtain ⟨bb, bo, sa, sn, sc, ys, rfl, hy, hs, HY⟩ := (hb.quiet hq).at hlt
        obtain rfl : xs = ys := by have h1 := HX.out; have h2 := HY.out; rw [h1] at h2; exact Option.some.inj h2
        have c1 : ∀ q, Calls Try.prog 28 #[.slice ra rn rc, .slice sa sn sc] (wr.drewN q) (fun e w' => e = .returned (.bool true) ∧ ∃ m, w' = wr.drewN m) := fun q => (sameIntsQ_any ra sa rn sn rc sc xs xs (wr.drewN q) (hr.1.drewN q) (hs.1.drewN q) hr.2.1 hs.2.1 hr.2.2.1 hs.2.2.1).mono fun e w' h => ⟨by rw [h.1, decide_eq_true rfl], ((Quiet.refl wr).drewN q).trans h.2⟩
        clear hr hs
        go_wp2
        go_quiet ((go_at_call 28; exact c1 _))
        go_wp2
        go_roundw
        case rel => exact ⟨k + 1, by omega, by go_num, hq.drewN _⟩
        case measure => simp [intOf]; omega
      · go_wp2
        go_ret
        exact ⟨rfl, hq⟩
  exact Q0.mono fun e w' h => retV_quiet h

end Go.Proofs.Ytmojniiimondfaa
namespace Go.Proofs.Ytmojniiimondfaa
open Go.RowKit

/-- A list given back by a draw. -/
def RetDI (w : World) (m : Nat) (e : Ending) (w' : World) : Prop := ∃ g n c xs, e = .returned (.slice (some ⟨g, 0, none⟩) n c) ∧ n ≤ m ∧ OwnI w' w.heap.size (some ⟨g, 0, none⟩) n c xs ∧ Below w.heap.size w w'
/-- Two lists given back by a draw. -/
def RetDII (w : World) (m : Nat) (e : Ending) (w' : World) : Prop := ∃ g n c xs g' n' c' ys, e = .returned (.tuple #[.slice (some ⟨g, 0, none⟩) n c, .slice (some ⟨g', 0, none⟩) n' c']) ∧ n ≤ m ∧ n' ≤ m ∧ OwnI w' w.heap.size (some ⟨g, 0, none⟩) n c xs ∧ OwnI w' w.heap.size (some ⟨g', 0, none⟩) n' c' ys ∧ Below w.heap.size w w'

/-- An integer given back by a draw. -/
def RetDN (w : World) (lo hi : Int) (e : Ending) (w' : World) : Prop := ∃ x : Int, e = .returned (.int .i64 x) ∧ lo ≤ x ∧ x ≤ hi ∧ Below w.heap.size w w'
end Go.Proofs.Ytmojniiimondfaa
namespace Go.Proofs.Ytmojniiimondfaa
open Go.RowKit

/-- As many numbers as there are places, each but once: all of them. -/
theorem pig : ∀ (n : Nat) (l : List Int), l.Nodup → (∀ x ∈ l, 1 ≤ x ∧ x ≤ (n : Int)) → l.length ≤ n ∧ (l.length = n → ∀ v : Int, 1 ≤ v → v ≤ (n : Int) → v ∈ l)
  | 0, l, _, hb => by
    cases l with
    | nil => exact ⟨by simp, fun _ v h1 h2 => by omega⟩
    | cons x xs => have := hb x (by simp); omega
  | n + 1, l, hn, hb => by
    by_cases hm : ((n : Int) + 1) ∈ l
    · have hl := List.length_erase_of_mem hm
      have hpos : 0 < l.length := List.length_pos_of_mem hm
      have h2 : ∀ x ∈ l.erase ((n : Int) + 1), 1 ≤ x ∧ x ≤ (n : Int) := fun x hx => by
        have h3 := (hn.mem_erase_iff).1 hx
        have h4 := hb x h3.2
        have h5 := h3.1
        omega
      obtain ⟨h3, h4⟩ := pig n _ (hn.erase _) h2
      refine ⟨by omega, fun he v h5 h6 => ?_⟩
      by_cases hv : v = (n : Int) + 1
      · rw [hv]; exact hm
      · exact ((hn.mem_erase_iff).1 (h4 (by omega) v h5 (by omega))).2
    · have h2 : ∀ x ∈ l, 1 ≤ x ∧ x ≤ (n : Int) := fun x hx => by
        have h4 := hb x hx
        have h5 : x ≠ (n : Int) + 1 := fun e => hm (e ▸ hx)
        omega
      obtain ⟨h3, h4⟩ := pig n l hn h2
      exact ⟨by omega, fun he => by omega⟩
theorem perm_surj {xs : List Int} (h : IsPermL xs) {v : Int} (h1 : 1 ≤ v) (h2 : v ≤ (xs.length : Int)) : ∃ k : Nat, xs[k]? = some v :=
  List.getElem?_of_mem ((pig xs.length xs h.2 h.1).2 rfl v h1 h2)
theorem nodup_at {xs : List Int} (h : xs.Nodup) {i j : Nat} {x : Int} (hi : xs[i]? = some x) (hj : xs[j]? = some x) : i = j := by
  obtain ⟨h1, h2⟩ := List.getElem?_eq_some_iff.1 hi
  obtain ⟨h3, h4⟩ := List.getElem?_eq_some_iff.1 hj
  have hp := List.pairwise_iff_getElem.1 h
  rcases Nat.lt_trichotomy i j with h5 | h5 | h5
  · exact absurd (h2.trans h4.symm) (hp i j h1 h3 h5)
  · exact h5
  · exact absurd (h4.trans h2.symm) (hp j i h3 h1 h5)
theorem invTo_get {xs : List Int} (h : IsPermL xs) : ∀ (m : Nat), m ≤ xs.length → ∀ (k v : Nat), k < m → xs[k]? = some ((v : Int) + 1) → (invTo xs m)[v]? = some ((k : Int) + 1)
  | 0, _, k, v, hk, _ => by omega
  | m + 1, hm, k, v, hk, hx => by
    obtain ⟨u, hu⟩ : ∃ u : Nat, xs[m]? = some ((u : Int) + 1) := by
      have hy : xs[m]? = some _ := List.getElem?_eq_getElem (by omega)
      have := h.1 _ (List.mem_of_getElem? hy)
      refine ⟨(xs[m]'(by omega) - 1).toNat, ?_⟩
      rw [hy]; congr 1; omega
    have hun : u < xs.length := by have := h.1 _ (List.mem_of_getElem? hu); omega
    have e : invTo xs (m + 1) = (invTo xs m).set u ((m : Int) + 1) := by
      have := invTo_succ (xs := xs) (k := m) (v := u + 1) (by rw [hu]; rfl)
      simpa using this
    rw [e]
    by_cases hkm : k = m
    · subst hkm
      have : u = v := by rw [hu] at hx; have := Option.some.inj hx; omega
      subst this
      rw [List.getElem?_set_self (by rw [length_invTo]; exact hun)]
    · have hne : u ≠ v := fun e => hkm (nodup_at h.2 (by rw [hx, e]) hu)
      rw [List.getElem?_set_ne hne]
      exact invTo_get h m (by omega) k v (by omega) hx
theorem inv_get {xs : List Int} (h : IsPermL xs) {k v : Nat} (hx : xs[k]? = some ((v : Int) + 1)) : (inv xs)[v]? = some ((k : Int) + 1) :=
  invTo_get h xs.length (Nat.le_refl _) k v (List.getElem?_eq_some_iff.1 hx).1 hx
/-- .. and nothing else. -/
theorem inv_at {xs : List Int} (h : IsPermL xs) {v : Nat} {y : Int} (hy : (inv xs)[v]? = some y) : ∃ k : Nat, y = (k : Int) + 1 ∧ xs[k]? = some ((v : Int) + 1) := by
  have hv : v < xs.length := by have := (List.getElem?_eq_some_iff.1 hy).1; rwa [length_inv] at this
  obtain ⟨k, hk⟩ := perm_surj h (v := (v : Int) + 1) (by omega) (by omega)
  have := inv_get h hk
  rw [hy] at this
  exact ⟨k, Option.some.inj this, hk⟩
theorem perm_inv {xs : List Int} (h : IsPermL xs) : IsPermL (inv xs) := by
  constructor
  · intro y hy
    obtain ⟨v, hv⟩ := List.getElem?_of_mem hy
    obtain ⟨k, rfl, hk⟩ := inv_at h hv
    have := (List.getElem?_eq_some_iff.1 hk).1
    rw [length_inv]; omega
  · refine List.pairwise_iff_getElem.2 fun i j hi hj hij e => ?_
    have h1 : (inv xs)[i]? = some _ := List.getElem?_eq_getElem hi
    have h2 : (inv xs)[j]? = some _ := List.getElem?_eq_getElem hj
    obtain ⟨k, e1, hk⟩ := inv_at h h1
    obtain ⟨l, e2, hl⟩ := inv_at h h2
    have : k = l := by omega
    subst this
    rw [hk] at hl
    have := Option.some.inj hl
    omega
theorem perm8_inv {xs : List Int} (h : Perm8 xs) : Perm8 (inv xs) := ⟨by rw [length_inv]; exact h.1, perm_inv h.2⟩
theorem ext_perm {xs ys : List Int} (hl : xs.length = ys.length) (h : ∀ (i : Nat) (x : Int), xs[i]? = some x → ys[i]? = some x) : xs = ys := by
  refine List.ext_getElem? fun i => ?_
  by_cases hi : i < xs.length
  · have h1 : xs[i]? = some _ := List.getElem?_eq_getElem hi
    rw [h1, h i _ h1]
  · rw [List.getElem?_eq_none (by omega), List.getElem?_eq_none (by omega)]
theorem inv_inv {xs : List Int} (h : IsPermL xs) : inv (inv xs) = xs := by
  symm
  refine ext_perm (by simp [length_inv]) fun k x hx => ?_
  have h1 := h.1 x (List.mem_of_getElem? hx)
  obtain ⟨v, rfl⟩ : ∃ v : Nat, x = (v : Int) + 1 := ⟨(x - 1).toNat, by omega⟩
  exact inv_get (perm_inv h) (inv_get h hx)
/-- The inverse undoes. -/
theorem comp_inv {xs : List Int} (h : IsPermL xs) : ∀ (i : Nat) (x : Int), (comp xs (inv xs))[i]? = some x → x = (i : Int) + 1 := by
  intro i x hx
  unfold comp at hx
  rw [List.getElem?_map] at hx
  cases hy : (inv xs)[i]? with
  | none => rw [hy] at hx; simp at hx
  | some y =>
    rw [hy] at hx
    obtain ⟨k, rfl, hk⟩ := inv_at h hy
    simp only [Option.map_some, Option.some.injEq] at hx
    rw [← hx, show ((k : Int) + 1).toNat - 1 = k by omega, getD_of hk]
theorem compP_inv {xs : List Int} (h : Perm8 xs) : ComposeOk xs (invP xs) ∧ ∀ (i : Nat) (x : Int), (compP xs (invP xs))[i]? = some x → x = (i : Int) + 1 := by
  have e : invP xs = inv xs := if_pos h
  have hc : ComposeOk xs (inv xs) := ⟨h, perm8_inv h, (length_inv xs).symm⟩
  rw [e]
  refine ⟨hc, ?_⟩
  have e2 : compP xs (inv xs) = comp xs (inv xs) := if_pos hc
  rw [e2]
  exact comp_inv h.2
end Go.Proofs.Ytmojniiimondfaa
namespace Go.Proofs.Ytmojniiimondfaa
open Go.RowKit
/-- A list given back by a draw, at any address. -/
def RetDA (w : World) (m : Nat) (e : Ending) (w' : World) : Prop := ∃ a n c xs, e = .returned (.slice a n c) ∧ n ≤ m ∧ OwnI w' w.heap.size a n c xs ∧ Below w.heap.size w w'

/-- Lists drawn: the call's own. -/
def RetDLL (w : World) (cu : Nat) (e : Ending) (w' : World) : Prop := ∃ a n c xss, e = .returned (.slice a n c) ∧ n ≤ 4 ∧ Hid (∀ r ∈ xss, r.length ≤ 9) ∧ OwnII w' w.heap.size w'.heap.size a n c xss ∧ Cur w' cu ∧ Out cu (cu + 1) w w'

set_option maxHeartbeats 1000000 in
theorem l3List_any (cu : Nat) (w : World) (h : Cur w cu) :
    Calls Try.prog 90 #[.pointer (some ⟨cu, 0, none⟩)] w (RetDLL w cu) := by
  have hcl := h.lt
  have hba := below_alloc w (.cells #[] 28)
  have hW := l1Below_any cu 5 (w.alloc (.cells #[] 28)) (h.below hba) (by omega) (by omega)
  rw [upB_pos (by omega)] at hW
  go_enter Try.func90, Try.ntmps90
  go_wp2_with fail
  refine hW.mono ?_
  rintro e w2 ⟨x, rfl, hx1, hx2, hc2, ho2⟩
  obtain ⟨m, rfl⟩ : ∃ m : Nat, x = m := ⟨x.toNat, by omega⟩
  have hm4 : m ≤ 4 := by omega
  have hown2 : OwnII w2 w.heap.size w2.heap.size (some ⟨w.heap.size, 0, none⟩) 0 0 [] := ((OwnII.start w).out ho2 (.inr hcl)).mono (Nat.le_refl _) ho2.size
  have hout2 : Out cu (cu + 1) w w2 := (Below.out hba).trans ho2
  clear hW ho2
  go_wp2
  go_loopw [3, 5] (fun ov kv wr => ∃ (j c : Nat) (a : Option Addr) (xss : List (List Int)), j ≤ m ∧ ov = .slice a j c ∧ kv = .int .i64 (j : Int) ∧ Hid (∀ r ∈ xss, r.length ≤ 9) ∧ Hid (OwnII wr w.heap.size wr.heap.size a j c xss) ∧ Hid (Cur wr cu) ∧ Hid (Out cu (cu + 1) w wr)) (fun _ kv _ => m - (intOf kv).toNat)
  case atStart => exact ⟨0, 0, _, [], Nat.zero_le _, rfl, by go_num, by show ∀ r ∈ _, _; simp, hown2, hc2, hout2⟩
  case round =>
    obtain ⟨j, c1, a1, xss, hj, rfl, rfl, H9, HO, HC, HOut⟩ := hrel
    by_cases hlt : j < m
    · have hD := l1Below_any cu 5 wr HC.out (by omega) (by omega)
      rw [upB_pos (by omega)] at hD
      go_wp2_with fail
      refine hD.mono ?_
      rintro e w3 ⟨y, rfl, hy1, hy2, hc3, ho3⟩
      have hL := l2Draw_any cu y w3 hc3 (by omega) (by omega)
      clear hD
      go_wp2_with fail
      refine hL.mono ?_
      rintro e w4 ⟨g', n', c', ys, rfl, hn', ho', hc4, ho4⟩
      have hszr := HOut.out.size
      have hsz3 := ho3.size
      have hsz4 := ho4.size
      have hown4 : OwnII w4 w.heap.size wr.heap.size a1 j c1 xss := (HO.out.out ho3 (.inr hcl)).out ho4 (.inr hcl)
      have hout4 := (HOut.out.trans ho3).trans ho4
      have hrow := ho'.ins
      have h9 : Hid (∀ r ∈ xss ++ [ys], r.length ≤ 9) := by
        show ∀ r ∈ _, _
        intro r hr
        rcases List.mem_append.1 hr with h1 | h1
        · exact H9.out r h1
        · simp only [List.mem_singleton] at h1
          have h2 := ho'.1
          rw [h1]; omega
      clear hL HO HOut ho3 ho4 ho' hc3
      go_wp2_with (at_builtin; refine wpList_appII rfl _ _ rfl w.heap.size wr.heap.size w3.heap.size _ _ _ _ rfl hown4 _ _ _ _ hrow hsz3 hszr _ rfl rfl (by omega) (by omega) (by omega) ?_)
      intro a9 c9 w9 g1 g2 _
      have HO9 := Lib.hid g1
      have HC9 := Lib.hid (hc4.belowAt g2 hcl)
      have HT9 := Lib.hid (hout4.onBelow g2)
      clear g1 g2 hown4 hrow
      go_wp2
      go_roundw
      case rel => exact ⟨j + 1, c9, a9, _, by omega, rfl, by go_num, h9, HO9.out, HC9.out, HT9.out⟩
      case measure => simp [intOf]; omega
    · obtain rfl : j = m := by omega
      by_cases hj0 : 0 < j
      · have hjI : (0 : Int) < (j : Int) := by omega
        have hO := l1Once_any cu 12 wr HC.out (by omega) (by omega)
        have hown := HO.out
        have hout := HOut.out
        have hszr := hout.size
        clear HO HOut
        go_wp2_with fail
        refine hO.mono ?_
        rintro e w3 ⟨b, rfl, hc3, ho3⟩
        have hown3 := hown.out ho3 (.inr hcl)
        have hout3 := hout.trans ho3
        have hsz3 := ho3.size
        clear hO hown hout ho3
        cases b with
        | true =>
          have hB := l2Bent_any cu w3 hc3
          go_wp2_with fail
          refine hB.mono ?_
          rintro e w5 ⟨g', n', c', ys, rfl, hn', ho', hc5, ho5⟩
          have hown5 := hown3.out ho5 (.inr hcl)
          have hout5 := hout3.trans ho5
          have hsz5 := ho5.size
          obtain ⟨g, ra, rn, rc, zs, rfl, hcell, _, _, _⟩ := hown5.row hj0
          obtain ⟨p1, p2, p3, hfz, p5⟩ := hown5.put hj0 ho'.ins hsz3 hszr (by omega)
          have hb9 : Below w.heap.size w5 (w5.setCell ⟨g, 0, none⟩ (.slice (some ⟨g', 0, none⟩) n' c')) := grownBy_below p2 (by omega) (fun k hk => by cases hk; exact p3)
          have h9 : Hid (∀ r ∈ xss.set 0 ys, r.length ≤ 9) := by
            show ∀ r ∈ _, _
            intro r hr
            rcases List.mem_or_eq_of_mem_set hr with h1 | h1
            · exact H9.out r h1
            · have h2 := ho'.1
              rw [h1]; omega
          have HO9 := Lib.hid (p1.mono (Nat.le_refl _) (Nat.le_of_eq p5.symm))
          have HC9 := Lib.hid (hc5.belowAt hb9 hcl)
          have HT9 := Lib.hid (hout5.onBelow hb9)
          clear hB hown3 hown5 hout3 hout5 p1 p2 hb9 ho5 ho'
          go_wp2
          go_ret
          exact ⟨_, j, c1, _, rfl, hm4, h9, HO9.out, HC9.out, HT9.out⟩
        | false =>
          have HO9 := Lib.hid (hown3.mono (Nat.le_refl _) hsz3)
          clear hown3
          go_wp2
          go_ret
          exact ⟨_, j, c1, _, rfl, hm4, H9, HO9.out, hc3, hout3⟩
      · have hjI : ¬ (0 : Int) < (j : Int) := by omega
        go_wp2
        go_ret
        exact ⟨_, j, c1, _, rfl, hm4, H9, HO.out, HC.out, HOut.out⟩

end Go.Proofs.Ytmojniiimondfaa
namespace Go.Proofs.Ytmojniiimondfaa
open Go.RowKit

/-- A list drawn, at any address. -/
def RetDLA (w : World) (cu m : Nat) (e : Ending) (w' : World) : Prop := ∃ a n c xs, e = .returned (.slice a n c) ∧ n ≤ m ∧ OwnI w' w.heap.size a n c xs ∧ Cur w' cu ∧ Out cu (cu + 1) w w'
theorem iis2 {w : World} {blk : Nat} {pa qa : Option Addr} {pn pc qn qc : Nat} {xs ys : List Int} (h0 : w.cell? ⟨blk, 0, none⟩ = some (.slice pa pn pc)) (h1 : w.cell? ⟨blk, 1, none⟩ = some (.slice qa qn qc)) (hp : SlI w pa pn pc xs) (hq : SlI w qa qn qc ys) : IIs w (some ⟨blk, 0, none⟩) 2 2 [xs, ys] := by
  refine ⟨fun i zs hz => ?_, rfl, by omega, Nat.le_refl _⟩
  rcases i with _ | _ | i
  · simp only [List.getElem?_cons_zero, Option.some.injEq] at hz
    subst hz
    exact ⟨blk, 0, (pa, pn, pc), rfl, h0, hp⟩
  · simp only [List.getElem?_cons_succ, List.getElem?_cons_zero, Option.some.injEq] at hz
    subst hz
    exact ⟨blk, 0, (qa, qn, qc), rfl, h1, hq⟩
  · simp at hz

set_option maxHeartbeats 1000000 in
theorem l4Two_any (a : Option Addr) (n c : Nat) (w : World) (hn : n ≤ 1048576) (h : Byts w w.heap.size a n) :
    Calls Try.prog 86 #[.slice a n c] w (RetDII w 9) := by
  have hC := l1New_any a n c w hn h
  go_enter Try.func86, Try.ntmps86
  go_wp2_with fail
  refine hC.mono ?_
  rintro e w1 ⟨cu, rfl, hcu, hc1, hb1⟩
  have hcl := hc1.lt
  have hL := l1Below_any cu 6 w1 hc1 (by omega) (by omega)
  rw [upB_pos (by omega)] at hL
  clear hC
  go_wp2_with fail
  refine hL.mono ?_
  rintro e w2 ⟨x, rfl, hx1, hx2, hc2, ho2⟩
  have hW := l2Draw_any cu x w2 hc2 (by omega) (by omega)
  clear hL
  go_wp2_with fail
  refine hW.mono ?_
  rintro e w3 ⟨g, m, d, xs, rfl, hm, ho, hc3, ho3⟩
  have hO := l1Once_any cu 12 w3 hc3 (by omega) (by omega)
  have hcl2 : cu < w2.heap.size := hc2.lt
  clear hW
  go_wp2_with fail
  refine hO.mono ?_
  rintro e w4 ⟨b, rfl, hc4, ho4⟩
  have hown4 := ho.outC ho4 hcl2
  have hout4 := (ho2.trans ho3).trans ho4
  have hs12 := ho2.size
  clear hO ho
  cases b with
  | true =>
    have hW := l2Bent_any cu w4 hc4
    go_wp2_with fail
    refine hW.mono ?_
    rintro e w5 ⟨g', m', d', ys, rfl, hm', ho', hc5, ho5⟩
    have hown5 := hown4.outC ho5 hcl2
    have hbe := draw_below hcu hb1 (hout4.trans ho5)
    clear hW hown4
    go_wp2
    go_ret2
    exact ⟨g, m, d, xs, g', m', d', ys, rfl, by omega, hm', hown5.mono (Nat.le_trans hb1.size hs12), ho'.mono (Nat.le_trans hb1.size hout4.size), hbe⟩
  | false =>
    have hL := l1Below_any cu 5 w4 hc4 (by omega) (by omega)
    rw [upB_pos (by omega)] at hL
    go_wp2_with fail
    refine hL.mono ?_
    rintro e w5 ⟨y, rfl, hy1, hy2, hc5, ho5⟩
    have hown5 := hown4.outC ho5 hcl2
    have hout5 := hout4.trans ho5
    have hW := l2Draw_any cu y w5 hc5 (by omega) (by omega)
    clear hL hown4
    go_wp2_with fail
    refine hW.mono ?_
    rintro e w6 ⟨g', m', d', ys, rfl, hm', ho', hc6, ho6⟩
    have hown6 := hown5.outC ho6 hcl2
    have hbe := draw_below hcu hb1 (hout5.trans ho6)
    clear hW hown5
    go_wp2
    go_ret2
    exact ⟨g, m, d, xs, g', m', d', ys, rfl, by omega, by omega, hown6.mono (Nat.le_trans hb1.size hs12), ho'.mono (Nat.le_trans hb1.size hout5.size), hbe⟩

set_option maxHeartbeats 400000 in
theorem drawSumOf_any (a : Option Addr) (n c : Nat) (w : World) (hn : n ≤ 1048576) (h : Byts w w.heap.size a n) :
    Calls Try.prog 40 #[.slice a n c] w (RetDII w 9) := by
  have hC := l4Two_any a n c w hn h
  go_enter Try.func40, Try.ntmps40
  go_wp2_with fail
  refine hC.mono ?_
  rintro e w1 ⟨g, m, d, xs, g', m', d', ys, rfl, hm, hm', ho, ho', hbe⟩
  clear hC
  go_wp2
  go_ret2
  exact ⟨g, m, d, xs, g', m', d', ys, rfl, hm, hm', ho, ho', hbe⟩

set_option maxHeartbeats 1000000 in
theorem l4Summed_any (cu : Nat) (w : World) (h : Cur w cu) :
    Calls Try.prog 112 #[.pointer (some ⟨cu, 0, none⟩)] w (RetDLA w cu 9) := by
  have hcl := h.lt
  have hL := l1Below_any cu 4 w h (by omega) (by omega)
  rw [upB_pos (by omega)] at hL
  go_enter Try.func112, Try.ntmps112
  go_wp2_with fail
  refine hL.mono ?_
  rintro e w1 ⟨x, rfl, hx1, hx2, hc1, ho1⟩
  have hW := l2Draw_any cu x w1 hc1 (by omega) (by omega)
  clear hL
  go_wp2_with fail
  refine hW.mono ?_
  rintro e w2 ⟨g, m, d, xs, rfl, hm, ho, hc2, ho2⟩
  have hown2 : OwnI w2 w.heap.size (some ⟨g, 0, none⟩) m d xs := ho.mono ho1.size
  have hout2 : Out cu (cu + 1) w w2 := ho1.trans ho2
  have hm9 : m ≤ 9 := by omega
  clear hW ho ho1 ho2
  go_wp2
  go_loopw [3, 4, 5, 6] (fun pv kv _ _ wr => ∃ (j pn pc : Nat) (pa : Option Addr) (xs : List Int), j ≤ 3 ∧ pn ≤ 9 ∧ pv = .slice pa pn pc ∧ kv = .int .i64 (j : Int) ∧ Hid (OwnI wr w.heap.size pa pn pc xs) ∧ Hid (Cur wr cu) ∧ Hid (Out cu (cu + 1) w wr)) (fun _ kv _ _ _ => 3 - (intOf kv).toNat)
  case atStart => exact ⟨0, m, d, _, xs, Nat.zero_le _, hm9, rfl, rfl, hown2, hc2, hout2⟩
  case round =>
    obtain ⟨j, pn, pc, pa, ps, hj, hp9, rfl, rfl, HO, HC, HOut⟩ := hrel
    by_cases hlt : j < 3
    · have hL := l1Below_any cu 3 wr HC.out (by omega) (by omega)
      rw [upB_pos (by omega)] at hL
      go_wp2_with fail
      refine hL.mono ?_
      rintro e w3 ⟨y, rfl, hy1, hy2, hc3, ho3⟩
      have hown3 := HO.out.outC ho3 hcl
      have hout3 := HOut.out.trans ho3
      have hW := l2Draw_any cu y w3 hc3 (by omega) (by omega)
      clear hL HO HOut ho3
      go_wp2_with fail
      refine hW.mono ?_
      rintro e w4 ⟨g', n', c', ys, rfl, hn', hr4, hc4, ho4⟩
      have hown4 := hown3.outC ho4 hcl
      have hout4 := hout3.trans ho4
      have hcl3 := hc3.lt
      have hba := below_alloc w4 (.cells #[.slice pa pn pc, .slice (some ⟨g', 0, none⟩) n' c'] 28)
      have hO := l1Once_any cu 2 _ (hc4.below hba) (by omega) (by omega)
      have hsz4 : cu < w4.heap.size := hc4.lt
      clear hW ho4 hown3
      go_wp2_with fail
      refine hO.mono ?_
      rintro e w5 ⟨b, rfl, hc5, ho5⟩
      have hown5 := (hown4.below hba).outC ho5 hcl
      have hr5 := (hr4.below hba).outC ho5 hcl3
      have hout5 := (hout4.onBelow (hba.mono hout4.size)).trans ho5
      have hx0 : w5.cell? ⟨w4.heap.size, 0, none⟩ = some (.slice pa pn pc) := (World.cell?_of_block (a := ⟨w4.heap.size, 0, none⟩) (ho5.block w4.heap.size (by simp) (.inr (by omega)))).trans (by rw [World.cell?_alloc_at (hn := rfl)]; rfl)
      have hx1 : w5.cell? ⟨w4.heap.size, 1, none⟩ = some (.slice (some ⟨g', 0, none⟩) n' c') := (World.cell?_of_block (a := ⟨w4.heap.size, 1, none⟩) (ho5.block w4.heap.size (by simp) (.inr (by omega)))).trans (by rw [World.cell?_alloc_at (hn := rfl)]; rfl)
      have hii := iis2 hx0 hx1 (hown5.sl (by omega)) (hr5.sl (by omega))
      have hJ := spec_JoinParts _ 2 2 _ b w5 hii
      have hjl := length_joinP b [ps, ys]
      clear hO hown4 hr4 hr5 hx0 hx1 hii ho5
      obtain ⟨v, hv⟩ : ∃ v, v = decide (JOk [ps, ys] [ps, ys].length) := ⟨_, rfl⟩
      rw [← hv] at hJ
      clear hv
      go_wp2_with fail
      refine hJ.mono ?_
      rintro e w6 ⟨qa, qn, qc, rfl, hoq, hb6⟩
      have hq8 : qn ≤ 8 := by have h1 := hoq.1; omega
      have HO6 := Lib.hid (hown5.below hb6)
      have HQ6 := Lib.hid (hoq.mono hout5.size)
      have HC6 := Lib.hid (hc5.below hb6)
      have HT6 := Lib.hid (hout5.onBelow (hb6.mono hout5.size))
      clear hJ hown5 hoq hout5 hb6 hc5
      cases v with
      | true =>
        go_wp2
        go_roundw
        case rel => exact ⟨j + 1, qn, qc, qa, _, by omega, by omega, rfl, by go_num, HQ6.out, HC6.out, HT6.out⟩
        case measure => simp [intOf]; omega
      | false =>
        go_wp2
        go_roundw
        case rel => exact ⟨j + 1, pn, pc, pa, _, by omega, by omega, rfl, by go_num, HO6.out, HC6.out, HT6.out⟩
        case measure => simp [intOf]; omega
    · obtain rfl : j = 3 := by omega
      go_wp2
      go_ret
      exact ⟨pa, pn, pc, ps, rfl, hp9, HO.out, HC.out, HOut.out⟩

set_option maxHeartbeats 600000 in
theorem l4Bent_any (cu : Nat) (w : World) (h : Cur w cu) :
    Calls Try.prog 83 #[.pointer (some ⟨cu, 0, none⟩)] w (RetDLA w cu 9) := by
  have hO := l1Once_any cu 3 w h (by omega) (by omega)
  go_enter Try.func83, Try.ntmps83
  go_wp2_with fail
  refine hO.mono ?_
  rintro e w1 ⟨b, rfl, hc1, ho1⟩
  clear hO
  cases b with
  | true =>
    have hW := l2Bent_any cu w1 hc1
    go_wp2_with fail
    refine hW.mono ?_
    rintro e w2 ⟨g, m, d, xs, rfl, hm, ho, hc2, ho2⟩
    have hout := ho1.trans ho2
    have HO := Lib.hid (ho.mono ho1.size)
    clear ho
    go_wp2
    go_ret
    exact ⟨_, m, d, xs, rfl, hm, HO.out, hc2, hout⟩
  | false =>
    have hW := l4Summed_any cu w1 hc1
    go_wp2_with fail
    refine hW.mono ?_
    rintro e w2 ⟨pa, m, d, xs, rfl, hm, ho, hc2, ho2⟩
    have hout := ho1.trans ho2
    have HO := Lib.hid (ho.mono ho1.size)
    clear ho
    go_wp2
    go_ret
    exact ⟨_, m, d, xs, rfl, hm, HO.out, hc2, hout⟩

set_option maxHeartbeats 400000 in
theorem drawSumParts_any (a : Option Addr) (n c : Nat) (w : World) (hn : n ≤ 1048576) (h : Byts w w.heap.size a n) :
    Calls Try.prog 37 #[.slice a n c] w (RetDA w 9) := by
  have hC := l1New_any a n c w hn h
  go_enter Try.func37, Try.ntmps37
  go_wp2_with fail
  refine hC.mono ?_
  rintro e w1 ⟨cu, rfl, hcu, hc1, hb1⟩
  have hW := l4Bent_any cu w1 hc1
  clear hC
  go_wp2_with fail
  refine hW.mono ?_
  rintro e w2 ⟨pa, m, d, xs, rfl, hm, ho, hc2, ho2⟩
  have hbe := draw_below hcu hb1 ho2
  go_wp2
  go_ret
  exact ⟨pa, m, d, xs, rfl, hm, ho.mono hb1.size, hbe⟩

set_option maxHeartbeats 600000 in
theorem drawJoinParts_any (a : Option Addr) (n c : Nat) (w : World) (hn : n ≤ 1048576) (h : Byts w w.heap.size a n) :
    Calls Try.prog 45 #[.slice a n c] w fun e w' => ∃ a n c xss sk, e = .returned (.tuple #[.slice a n c, .bool sk]) ∧ Hid (totL xss ≤ 1048576 ∧ xss.length ≤ 1048576) ∧ OwnII w' w.heap.size w'.heap.size a n c xss ∧ Below w.heap.size w w' := by
  have hC := l1New_any a n c w hn h
  go_enter Try.func45, Try.ntmps45
  go_wp2_with fail
  refine hC.mono ?_
  rintro e w1 ⟨cu, rfl, hcu, hc1, hb1⟩
  have hW := l3List_any cu w1 hc1
  have hcl := hc1.lt
  clear hC
  go_wp2_with fail
  refine hW.mono ?_
  rintro e w2 ⟨a2, m, d, xss, rfl, hm, h9, ho, hc2, ho2⟩
  have hO := l1Once_any cu 2 w2 hc2 (by omega) (by omega)
  have hbd : Hid (totL xss ≤ 1048576 ∧ xss.length ≤ 1048576) := by
    show _ ∧ _
    have h1 := totL_bound (m := 9) h9.out
    have h2 := ho.len
    omega
  clear hW
  go_wp2_with fail
  refine hO.mono ?_
  rintro e w3 ⟨b, rfl, hc3, ho3⟩
  have hbe := draw_below hcu hb1 (ho2.trans ho3)
  have HO := Lib.hid ((ho.out ho3 (.inr hcl)).mono hb1.size ho3.size)
  clear ho hO
  go_wp2
  go_ret2
  exact ⟨a2, m, d, xss, b, rfl, hbd, HO.out, hbe⟩

set_option maxHeartbeats 1000000 in
theorem drawIsLayered_any (a : Option Addr) (n c : Nat) (w : World) (hn : n ≤ 1048576) (h : Byts w w.heap.size a n) :
    Calls Try.prog 48 #[.slice a n c] w (RetDA w 9) := by
  have hC := l1New_any a n c w hn h
  go_enter Try.func48, Try.ntmps48
  go_wp2_with fail
  refine hC.mono ?_
  rintro e w1 ⟨cu, rfl, hcu, hc1, hb1⟩
  have hO := l1Once_any cu 2 w1 hc1 (by omega) (by omega)
  have hcl := hc1.lt
  clear hC
  go_wp2_with fail
  refine hO.mono ?_
  rintro e w2 ⟨b, rfl, hc2, ho2⟩
  clear hO
  cases b with
  | true =>
    have hba := below_alloc w2 (.cells #[] 28)
    have hs2 := ho2.size
    have hownS : OwnII (w2.alloc (.cells #[] 28)) w1.heap.size (w2.alloc (.cells #[] 28)).heap.size (some ⟨w2.heap.size, 0, none⟩) 0 0 [] := (OwnII.start w2).mono hs2 (Nat.le_refl _)
    have hcS := hc2.below hba
    have hoS : Out cu (cu + 1) w1 (w2.alloc (.cells #[] 28)) := ho2.onBelow (hba.mono hs2)
    clear hba
    go_wp2
    go_loopw [4, 5] (fun ov kv wr => ∃ (j c : Nat) (a : Option Addr) (xss : List (List Int)), j ≤ 3 ∧ ov = .slice a j c ∧ kv = .int .i64 (j : Int) ∧ Hid (∀ r ∈ xss, r.length ≤ 9) ∧ Hid (OwnII wr w1.heap.size wr.heap.size a j c xss) ∧ Hid (Cur wr cu) ∧ Hid (Out cu (cu + 1) w1 wr)) (fun _ kv _ => 3 - (intOf kv).toNat)
    case atStart => exact ⟨0, 0, _, [], Nat.zero_le _, rfl, by go_num, by show ∀ r ∈ _, _; simp, hownS, hcS, hoS⟩
    case round =>
      obtain ⟨j, c1, a1, xss, hj, rfl, rfl, H9, HO, HC, HOut⟩ := hrel
      by_cases hlt : j < 3
      · have hD := l1Below_any cu 3 wr HC.out (by omega) (by omega)
        rw [upB_pos (by omega)] at hD
        go_wp2_with fail
        refine hD.mono ?_
        rintro e w3 ⟨y, rfl, hy1, hy2, hc3, ho3⟩
        have hI := spec_IdentityPerm y w3 (wf_mid (by omega) (by omega))
        have hil := length_identP y
        clear hD
        go_wp2_with fail
        refine hI.mono ?_
        rintro e w4 ⟨ia, i_n, ic, rfl, hoi, hb4⟩
        have hR := l3Reverse_any ia i_n ic _ w4 (hoi.sl (by have h1 := hoi.1; omega))
        have hi8 : i_n ≤ 8 := by have h1 := hoi.1; omega
        have hoi1 := hoi.1
        clear hI hoi
        go_wp2_with fail
        refine hR.mono ?_
        rintro e w5 ⟨ra, rn, rc, rfl, hor, hb5⟩
        have hszr := HOut.out.size
        have hsz3 := ho3.size
        have hsz4 := hb4.size
        have hsz5 := hb5.size
        have hb35 : Below w3.heap.size w3 w5 := hb4.trans (hb5.mono hsz4)
        have hown5 : OwnII w5 w1.heap.size wr.heap.size a1 j c1 xss := (HO.out.out ho3 (.inr hcl)).below hb35
        have hout5 := (HOut.out.trans ho3).onBelow (hb35.mono (by omega))
        have hc5 := hc3.below hb35
        have hrow := hor.ins
        have h9 : Hid (∀ r ∈ xss ++ [(identP y).reverse], r.length ≤ 9) := by
          show ∀ r ∈ _, _
          intro r hr
          rcases List.mem_append.1 hr with h1 | h1
          · exact H9.out r h1
          · simp only [List.mem_singleton] at h1
            rw [h1, List.length_reverse]; omega
        clear hR HO HOut ho3 hb4 hb5 hb35 hor hc3
        go_wp2_with (at_builtin; refine wpList_appII rfl _ _ rfl w1.heap.size wr.heap.size w4.heap.size _ _ _ _ rfl hown5 _ _ _ _ hrow (by omega) hszr _ rfl rfl (by omega) (by omega) (by omega) ?_)
        intro a9 c9 w9 g1 g2 _
        have HO9 := Lib.hid g1
        have HC9 := Lib.hid (hc5.belowAt g2 hcl)
        have HT9 := Lib.hid (hout5.onBelow g2)
        clear g1 g2 hown5 hrow
        go_wp2
        go_roundw
        case rel => exact ⟨j + 1, c9, a9, _, by omega, rfl, by go_num, h9, HO9.out, HC9.out, HT9.out⟩
        case measure => simp [intOf]; omega
      · obtain rfl : j = 3 := by omega
        have hlen : Hid (totL xss ≤ 2097152 ∧ xss.length ≤ 2097152) := by
          show _ ∧ _
          have h1 := totL_bound (m := 9) H9.out
          have h2 := HO.out.len
          omega
        have hJ := spec_JoinParts a1 3 c1 xss false wr (HO.out.iisT hlen.out)
        have hjl := length_joinP false xss
        have hbe := draw_below hcu hb1 HOut.out
        have hszr := HOut.out.size
        obtain ⟨v, hv⟩ : ∃ v, v = decide (JOk xss xss.length) := ⟨_, rfl⟩
        rw [← hv] at hJ
        clear HO hv
        go_wp2_with fail
        refine hJ.mono ?_
        rintro e w6 ⟨qa, qn, qc, rfl, hoq, hb6⟩
        have hq8 : qn ≤ 8 := by have h1 := hoq.1; omega
        have HQ6 := Lib.hid (hoq.mono hbe.size)
        have hbf := hbe.trans (hb6.mono hbe.size)
        clear hJ hoq
        go_wp2
        go_ret
        exact ⟨qa, qn, qc, _, rfl, by omega, HQ6.out, hbf⟩
  | false =>
    have hW := l2Bent_any cu w2 hc2
    go_wp2_with fail
    refine hW.mono ?_
    rintro e w3 ⟨g, m, d, xs, rfl, hm, ho, hc3, ho3⟩
    have hbe := draw_below hcu hb1 (ho2.trans ho3)
    go_wp2
    go_ret
    exact ⟨_, m, d, xs, rfl, hm, ho.mono (Nat.le_trans hb1.size ho2.size), hbe⟩
end Go.Proofs.Ytmojniiimondfaa
namespace Go.Proofs.Ytmojniiimondfaa
open Go.RowKit

theorem mx_le {xs : List Int} {f m : Nat} {B : Int} (hm : 0 < m) (h : ∀ i, i < m → xs.getD (f + i) 0 ≤ B) : ∀ k, k ≤ m → mxAt xs f k ≤ B
  | 0, _ => by have := h 0 hm; simpa [mxAt] using this
  | k + 1, hk => by have h1 := mx_le hm h k (by omega); have h2 := h k (by omega); simp only [mxAt]; omega
theorem le_mn {xs : List Int} {f m : Nat} {B : Int} (hm : 0 < m) (h : ∀ i, i < m → B ≤ xs.getD (f + i) 0) : ∀ k, k ≤ m → B ≤ mnAt xs f k
  | 0, _ => by have := h 0 hm; simpa [mnAt] using this
  | k + 1, hk => by have h1 := le_mn hm h k (by omega); have h2 := h k (by omega); simp only [mnAt]; omega
/-- A raised permutation is a run. -/
theorem run_block {X r : List Int} {f : Nat} {d : Int} (hr : IsPermL r) (h0 : 0 < r.length) (hx : ∀ i x, r[i]? = some x → X.getD (f + i) 0 = x + d) : runB X f r.length = true := by
  have hv : ∀ i, i < r.length → 1 + d ≤ X.getD (f + i) 0 ∧ X.getD (f + i) 0 ≤ (r.length : Int) + d := by
    intro i hi
    have h1 : r[i]? = some _ := List.getElem?_eq_getElem hi
    have h2 := hr.1 _ (List.mem_of_getElem? h1)
    rw [hx i _ h1]; omega
  have a1 := mx_le h0 (fun i hi => (hv i hi).2) r.length (Nat.le_refl _)
  have a2 := le_mn h0 (fun i hi => (hv i hi).1) r.length (Nat.le_refl _)
  obtain ⟨i, hi⟩ := perm_surj hr (v := (r.length : Int)) (by omega) (Int.le_refl _)
  obtain ⟨j, hj⟩ := perm_surj hr (v := 1) (by omega) (by omega)
  have b1 := le_mx X f r.length i (List.getElem?_eq_some_iff.1 hi).1
  have b2 := mn_le X f r.length j (List.getElem?_eq_some_iff.1 hj).1
  rw [hx i _ hi] at b1
  rw [hx j _ hj] at b2
  unfold runB
  exact decide_eq_true (by omega)

/-! ### the closure -/
theorem clos_ok {xs : List Int} (hp : IsPermL xs) : ∀ (f a b : Nat), a < b → b ≤ xs.length → xs.length ≤ f + (b - a) →
    (clos xs f (a, b)).1 ≤ a ∧ b ≤ (clos xs f (a, b)).2 ∧ (clos xs f (a, b)).2 ≤ xs.length ∧ runB xs (clos xs f (a, b)).1 ((clos xs f (a, b)).2 - (clos xs f (a, b)).1) = true
  | f, a, b, hab, hb, hf => by
    cases hr : runB xs a (b - a) with
    | true =>
      have e := clos_run (s := (a, b)) hr f
      rw [e]
      exact ⟨Nat.le_refl _, Nat.le_refl _, hb, hr⟩
    | false =>
      obtain ⟨h1, h2, h3, h4⟩ := stp_grows hp hab hb hr
      cases f with
      | zero => omega
      | succ f =>
        rw [clos_zero xs (a, b) f hr]
        obtain ⟨A, B, hs⟩ : ∃ A B, stp xs (a, b) = (A, B) := ⟨_, _, rfl⟩
        rw [hs] at h1 h2 h3 h4 ⊢
        simp only at h1 h2 h3 h4
        obtain ⟨q1, q2, q3, q4⟩ := clos_ok hp f A B (by omega) h3 (by omega)
        exact ⟨by omega, by omega, q3, q4⟩
/-- What the closure has. -/
theorem clos_facts {xs : List Int} {f t : Int} (h : ClOk xs f t) : ∃ A B : Int, closP xs f t = [A, B] ∧ ivP xs A B = true ∧ A ≤ f ∧ A ≤ t ∧ f ≤ B ∧ t ≤ B ∧ 1 ≤ A ∧ B ≤ (xs.length : Int) := by
  obtain ⟨hp, h1, h2⟩ := h
  obtain ⟨x0, hx0⟩ : ∃ x0 : Nat, x0 = (min f t).toNat - 1 := ⟨_, rfl⟩
  obtain ⟨y0, hy0⟩ : ∃ y0 : Nat, y0 = (max f t).toNat := ⟨_, rfl⟩
  have e : closP xs f t = closR xs x0 y0 := by unfold closP; rw [if_pos ⟨hp, h1, h2⟩, hx0, hy0]
  obtain ⟨q1, q2, q3, q4⟩ := clos_ok hp.2 xs.length x0 y0 (by omega) (by omega) (by omega)
  obtain ⟨A, hA⟩ : ∃ A, A = (clos xs xs.length (x0, y0)).1 := ⟨_, rfl⟩
  obtain ⟨B, hB⟩ : ∃ B, B = (clos xs xs.length (x0, y0)).2 := ⟨_, rfl⟩
  rw [← hA] at q1 q4
  rw [← hB] at q2 q3 q4
  refine ⟨(A : Int) + 1, (B : Int), by rw [e, hA, hB]; rfl, ?_, by omega, by omega, by omega, by omega, by omega, by omega⟩
  unfold ivP
  rw [decide_eq_true (show IvOk xs ((A : Int) + 1) (B : Int) from ⟨hp, by omega, by omega, by omega⟩)]
  have e1 : ((A : Int) + 1).toNat - 1 = A := by omega
  have e2 : ((B : Int)).toNat - (((A : Int) + 1).toNat - 1) = B - A := by omega
  rw [e1] at e2 ⊢
  rw [show ((B : Int)).toNat = B by omega, q4]; rfl

/-! ### the intervals that are listed -/
theorem ivRow_ok {xs : List Int} (h8 : Perm8 xs) (f : Nat) : ∀ j, f + j < xs.length → ∀ r ∈ ivRow xs f j, ∃ A B : Int, r = [A, B] ∧ ivP xs A B = true ∧ 1 ≤ A ∧ A ≤ 8 ∧ 1 ≤ B ∧ B ≤ 8
  | 0, _, r, hr => by simp [ivRow] at hr
  | j + 1, hj, r, hr => by
    simp only [ivRow] at hr
    rcases List.mem_append.1 hr with hr | hr
    · exact ivRow_ok h8 f j (by omega) r hr
    · split at hr
      · rename_i hc
        simp only [List.mem_singleton] at hr
        have hl := h8.1
        refine ⟨_, _, hr, ?_, by omega, by omega, by omega, by omega⟩
        unfold ivP
        rw [decide_eq_true (show IvOk xs ((f : Int) + 1) ((f : Int) + ((j : Int) + 2)) from ⟨h8, by omega, by omega, by omega⟩)]
        rw [show ((f : Int) + 1).toNat - 1 = f by omega, show ((f : Int) + ((j : Int) + 2)).toNat - f = j + 2 by omega, hc.2]; rfl
      · cases hr
theorem ivAll_ok {xs : List Int} (h8 : Perm8 xs) : ∀ f, f ≤ xs.length → ∀ r ∈ ivAll xs f, ∃ A B : Int, r = [A, B] ∧ ivP xs A B = true ∧ 1 ≤ A ∧ A ≤ 8 ∧ 1 ≤ B ∧ B ≤ 8
  | 0, _, r, hr => by simp [ivAll] at hr
  | f + 1, hf, r, hr => by
    simp only [ivAll] at hr
    rcases List.mem_append.1 hr with hr | hr
    · exact ivAll_ok h8 f (by omega) r hr
    · exact ivRow_ok h8 f _ (by omega) r hr
theorem ivs_ok (xs : List Int) : ∀ r ∈ ivsP xs, ∃ A B : Int, r = [A, B] ∧ ivP xs A B = true ∧ 1 ≤ A ∧ A ≤ 8 ∧ 1 ≤ B ∧ B ≤ 8 := by
  intro r hr
  unfold ivsP at hr
  split at hr
  · rename_i h; exact ivAll_ok h _ (Nat.le_refl _) r hr
  · cases hr
theorem sim_cnt (xs : List Int) (h : simP xs = true) : cntIv xs = (xs.length : Int) + 1 ∨ xs.length = 1 := by
  unfold simP simB at h
  simp only [Bool.and_eq_true, decide_eq_true_eq, beq_iff_eq] at h
  obtain ⟨hp, h0, h1⟩ := h
  by_cases hn : xs.length = 1
  · exact .inr hn
  · left
    unfold cntIv
    rw [if_pos hp, if_pos (by omega), h1]; omega

/-! ### the blocks of an inflation -/
theorem bs_lt {P : List Int} {L : List (List Int)} {k : Nat} {x v : Int} {r : List Int} (hx : P[k]? = some x) (hr : L[k]? = some r) (hlt : x < v) : ∀ i, bsT P L x i + (if k < i then r.length else 0) ≤ bsT P L v i
  | 0 => by simp [bsT]
  | i + 1 => by
    have ih := bs_lt hx hr hlt i
    simp only [bsT]
    by_cases hk : k = i
    · subst hk
      rw [getD_of hx, getD_of hr, if_neg (Int.lt_irrefl _), if_pos hlt, if_pos (by omega)]
      rw [if_neg (Nat.lt_irrefl _)] at ih
      omega
    · have hv : P.getD i 0 < x → P.getD i 0 < v := fun q => by omega
      by_cases hki : k < i
      · rw [if_pos hki] at ih
        rw [if_pos (show k < i + 1 by omega)]
        by_cases q1 : P.getD i 0 < x
        · rw [if_pos q1, if_pos (hv q1)]; omega
        · rw [if_neg q1]; omega
      · rw [if_neg hki] at ih
        rw [if_neg (show ¬ k < i + 1 by omega)]
        by_cases q1 : P.getD i 0 < x
        · rw [if_pos q1, if_pos (hv q1)]; omega
        · rw [if_neg q1]; omega
theorem bs_top {P : List Int} {L : List (List Int)} {k : Nat} {x : Int} {r : List Int} (hx : P[k]? = some x) (hr : L[k]? = some r) : ∀ i, i ≤ L.length → bsT P L x i + (if k < i then r.length else 0) ≤ totL (L.take i)
  | 0, _ => by simp [bsT]
  | i + 1, hi => by
    have ih := bs_top hx hr i (by omega)
    have h : L[i]? = some _ := List.getElem?_eq_getElem (by omega)
    rw [totL_snoc h]
    simp only [bsT]
    by_cases hk : k = i
    · subst hk
      rw [hr] at h
      rw [getD_of hx, if_neg (Int.lt_irrefl _), if_pos (by omega), ← Option.some.inj h]
      rw [if_neg (Nat.lt_irrefl _)] at ih
      omega
    · have e : (L.getD i []).length = (L[i]'(by omega)).length := by rw [getD_of h]
      by_cases hki : k < i
      · rw [if_pos hki] at ih
        rw [if_pos (show k < i + 1 by omega), e]
        by_cases q1 : P.getD i 0 < x
        · rw [if_pos q1]; omega
        · rw [if_neg q1]; omega
      · rw [if_neg hki] at ih
        rw [if_neg (show ¬ k < i + 1 by omega), e]
        by_cases q1 : P.getD i 0 < x
        · rw [if_pos q1]; omega
        · rw [if_neg q1]; omega
theorem mem_infK {P : List Int} {L : List (List Int)} : ∀ k, k ≤ P.length → k ≤ L.length → ∀ y ∈ infK P L k, ∃ j x r u, j < k ∧ P[j]? = some x ∧ L[j]? = some r ∧ u ∈ r ∧ y = u + (bsT P L x P.length : Int)
  | 0, _, _, y, hy => by simp [infK] at hy
  | k + 1, h1, h2, y, hy => by
    have hx : P[k]? = some _ := List.getElem?_eq_getElem (by omega)
    have hr : L[k]? = some _ := List.getElem?_eq_getElem (by omega)
    rw [infK_succ hx hr] at hy
    rcases List.mem_append.1 hy with hy | hy
    · obtain ⟨j, x, r, u, a1, a2⟩ := mem_infK k (by omega) (by omega) y hy
      exact ⟨j, x, r, u, by omega, a2⟩
    · obtain ⟨u, hu, rfl⟩ := List.mem_map.1 hy
      exact ⟨k, _, _, u, by omega, hx, hr, hu, rfl⟩
theorem perm_infK {P : List Int} {L : List (List Int)} (h : IOk P L) : IsPermL (infK P L P.length) := by
  obtain ⟨hP, hl, hR, h0, ht⟩ := h
  have hlen : (infK P L P.length).length = totL L := by
    rw [length_infK P L _ (by omega), ← hl, List.take_length]
  constructor
  · intro y hy
    obtain ⟨j, x, r, u, hj, hx, hr, hu, rfl⟩ := mem_infK P.length (Nat.le_refl _) (by omega) y hy
    have h1 := (hR r (List.mem_of_getElem? hr)).2.1 u hu
    have h2 := bs_top hx hr P.length (by omega)
    rw [if_pos hj, ← hl, List.take_length, hl] at h2
    rw [hlen]
    omega
  · have : ∀ k, k ≤ P.length → (infK P L k).Nodup := by
      intro k
      induction k with
      | zero => intro _; simp [infK]
      | succ k ih =>
        intro hk
        have hx : P[k]? = some _ := List.getElem?_eq_getElem (by omega)
        have hr : L[k]? = some _ := List.getElem?_eq_getElem (by omega)
        rw [infK_succ hx hr]
        refine List.nodup_append.2 ⟨ih (by omega), nodup_raise (hR _ (List.mem_of_getElem? hr)).2.2, fun y hy z hz e => ?_⟩
        obtain ⟨j, x, r, u, hj, hxj, hrj, hu, rfl⟩ := mem_infK k (by omega) (by omega) y hy
        obtain ⟨v, hv, rfl⟩ := List.mem_map.1 hz
        have b1 := (hR r (List.mem_of_getElem? hrj)).2.1 u hu
        have b2 := (hR _ (List.mem_of_getElem? hr)).2.1 v hv
        have hne : x ≠ P[k]'(by omega) := fun e2 => by
          have := nodup_at hP.2.2 (by rw [hxj, e2]) hx
          omega
        rcases Int.lt_or_gt_of_ne hne with h1 | h1
        · have := bs_lt hxj hrj h1 P.length
          rw [if_pos (by omega)] at this
          omega
        · have := bs_lt hx hr h1 P.length
          rw [if_pos (by omega)] at this
          omega
    exact this _ (Nat.le_refl _)
theorem infK_at {P : List Int} {L : List (List Int)} {k : Nat} {x : Int} {r : List Int} (hx : P[k]? = some x) (hr : L[k]? = some r) {i : Nat} {u : Int} (hu : r[i]? = some u) : ∀ m, k < m → m ≤ P.length → m ≤ L.length →
    (infK P L m)[totL (L.take k) + i]? = some (u + (bsT P L x P.length : Int))
  | 0, h, _, _ => by omega
  | m + 1, h, h1, h2 => by
    have hxm : P[m]? = some _ := List.getElem?_eq_getElem (by omega)
    have hrm : L[m]? = some _ := List.getElem?_eq_getElem (by omega)
    have hi := (List.getElem?_eq_some_iff.1 hu).1
    rw [infK_succ hxm hrm]
    by_cases hkm : k = m
    · subst hkm
      rw [hx] at hxm; rw [hr] at hrm
      rw [← Option.some.inj hxm, ← Option.some.inj hrm]
      rw [List.getElem?_append_right (by rw [length_infK P L k (by omega)]; omega), length_infK P L k (by omega), Nat.add_sub_cancel_left]
      unfold raise
      rw [List.getElem?_map, hu]; rfl
    · have ih := infK_at hx hr hu m (by omega) (by omega) (by omega)
      rw [List.getElem?_append_left (List.getElem?_eq_some_iff.1 ih).1]
      exact ih
theorem block_iv {P : List Int} {L : List (List Int)} (h : IOk P L) {k : Nat} {r : List Int} (hr : L[k]? = some r) :
    ivP (infP P L) ((totL (L.take k) : Int) + 1) ((totL (L.take k) : Int) + (r.length : Int)) = true := by
  have hp := perm_infK h
  have e : infP P L = infK P L P.length := if_pos h
  obtain ⟨hP, hl, hR, h0, ht⟩ := h
  have hk : k < P.length := by have := (List.getElem?_eq_some_iff.1 hr).1; omega
  have hx : P[k]? = some _ := List.getElem?_eq_getElem hk
  have hlen : (infK P L P.length).length = totL L := by rw [length_infK P L _ (by omega), ← hl, List.take_length]
  have h8 : Perm8 (infK P L P.length) := ⟨by rw [hlen]; exact ht, hp⟩
  have hpos := h0 r (List.mem_of_getElem? hr)
  have hsn := totL_snoc hr
  have htk := totL_take_le L (k + 1)
  have hb : runB (infK P L P.length) (totL (L.take k)) r.length = true := run_block (hR r (List.mem_of_getElem? hr)).2 hpos (fun i u hu => by
    have := infK_at hx hr hu P.length hk (Nat.le_refl _) (by omega)
    rw [List.getD, this]; rfl)
  rw [e]
  unfold ivP
  rw [decide_eq_true (show IvOk (infK P L P.length) ((totL (L.take k) : Int) + 1) ((totL (L.take k) : Int) + (r.length : Int)) from ⟨h8, by omega, by omega, by rw [hlen]; omega⟩)]
  rw [show ((totL (L.take k) : Int) + 1).toNat - 1 = totL (L.take k) by omega, show ((totL (L.take k) : Int) + (r.length : Int)).toNat - totL (L.take k) = r.length by omega, hb]; rfl
end Go.Proofs.Ytmojniiimondfaa
namespace Go.Proofs.Ytmojniiimondfaa
open Go.RowKit

theorem OwnI.neII {w : World} {B lo hi n c m d : Nat} {a b : Option Addr} {xs : List Int} {xss : List (List Int)} (h : OwnI w B a n c xs) (k : OwnII w lo hi b m d xss) : (Value.slice a n c).ownBlock = none ∨ (Value.slice a n c).ownBlock ≠ (Value.slice b m d).ownBlock := by
  obtain ⟨rs, h1, h2, h3, _⟩ := k
  exact own_types_ne h.2 h3 (by decide)
def s1L : List ByteArray := [⟨#[50, 52, 49, 51]⟩, ⟨#[51, 49, 52, 50]⟩, ⟨#[50, 52, 49, 53, 51]⟩, ⟨#[50, 53, 51, 49, 52]⟩, ⟨#[51, 49, 53, 50, 52]⟩]
def s2L : List ByteArray := [⟨#[50, 52, 49, 51]⟩, ⟨#[51, 49, 52, 50]⟩, ⟨#[50, 52, 49, 53, 51]⟩, ⟨#[50, 53, 51, 49, 52]⟩, ⟨#[51, 49, 53, 50, 52]⟩, ⟨#[51, 53, 49, 52, 50]⟩, ⟨#[52, 49, 51, 53, 50]⟩, ⟨#[52, 50, 53, 49, 51]⟩, ⟨#[50, 52, 54, 49, 51, 53]⟩, ⟨#[49]⟩, ⟨#[49, 50]⟩]
theorem s1_small : ∀ s ∈ s1L, s.size ≤ 9 := by decide
theorem s2_small : ∀ s ∈ s2L, s.size ≤ 9 := by decide

set_option maxHeartbeats 2000000 in
theorem l5Inflated_any (cu : Nat) (w : World) (h : Cur w cu) :
    Calls Try.prog 108 #[.pointer (some ⟨cu, 0, none⟩)] w (RetDLA w cu 9) := by
  have hcl := h.lt
  have hL := l1Below_any cu 5 w h (by omega) (by omega)
  rw [upB_pos (by omega)] at hL
  go_enter Try.func108, Try.ntmps108
  go_wp2_with fail
  refine hL.mono ?_
  rintro e w1 ⟨x, rfl, hx1, hx2, hc1, ho1⟩
  have hW := l2Draw_any cu (1 + x) w1 hc1 (by omega) (by omega)
  clear hL
  go_wp2_with fail
  refine hW.mono ?_
  rintro e w2 ⟨g, m, d, xs0, rfl, hm, ho, hc2, ho2⟩
  have hown2 : OwnI w2 w.heap.size (some ⟨g, 0, none⟩) m d xs0 := ho.mono ho1.size
  have hout2 : Out cu (cu + 1) w w2 := ho1.trans ho2
  have hm9 : m ≤ 9 := by omega
  have hO := l1Once_any cu 2 w2 hc2 (by omega) (by omega)
  clear hW ho ho1 ho2
  go_wp2_with fail
  refine hO.mono ?_
  rintro e w3 ⟨b, rfl, hc3, ho3⟩
  have hown3 := hown2.outC ho3 hcl
  have hout3 := hout2.trans ho3
  clear hO hown2 hout2 ho3
  cases b with
  | true =>
    have hba3 := below_alloc w3 (.cells (s1L.map .string).toArray 9)
    have hP := l1Pick_any cu _ _ _ s1L _ (hc3.below hba3) (litS w3 s1L (by decide)) (by decide) (fun p hp => by obtain rfl := Option.some.inj hp; exact hc3.lt)
    have hout3a := hout3.onBelow (hba3.mono hout3.size)
    clear hown3
    go_wp2_with fail
    refine hP.mono ?_
    rintro e w4 ⟨t, rfl, ht, hc4, ho4⟩
    have hts := s1_small t ht
    have hPP := spec_ParsePerm t w4 (by omega)
    have hpl := length_prsP t
    have hout4 := hout3a.trans ho4
    generalize prsB t = tb at hPP
    clear hP ht hba3 ho4 hout3a
    go_wp2_with fail
    refine hPP.mono ?_
    rintro e wx ⟨pa, pn, pc, rfl, hop, hb5⟩
    have hp9 : pn ≤ 9 := by have h1 := hop.1; omega
    have hown := hop.mono hout4.size
    have hout := hout4.onBelow (hb5.mono hout4.size)
    have hcx := hc4.below hb5
    generalize prsP t = ps at hown hpl
    clear hPP hop hout4 hb5 hc4 hpl
    have hba := below_alloc wx (.cells #[] 28)
    have hownS : OwnII (wx.alloc (.cells #[] 28)) w.heap.size (wx.alloc (.cells #[] 28)).heap.size (some ⟨wx.heap.size, 0, none⟩) 0 0 [] := (OwnII.start wx).mono hout.size (Nat.le_refl _)
    have hownp := hown.below hba
    have hcS := hcx.below hba
    have houtS := hout.onBelow (hba.mono hout.size)
    clear hba hown
    go_wp2
    go_loopw [4, 5] (fun ov kv wr => ∃ (j c : Nat) (a : Option Addr) (xss : List (List Int)), j ≤ pn ∧ ov = .slice a j c ∧ kv = .int .i64 (j : Int) ∧ Hid (∀ r ∈ xss, r.length ≤ 9) ∧ Hid (OwnII wr w.heap.size wr.heap.size a j c xss) ∧ Hid (OwnI wr w.heap.size pa pn pc ps) ∧ Hid (Cur wr cu) ∧ Hid (Out cu (cu + 1) w wr)) (fun _ kv _ => pn - (intOf kv).toNat)
    case atStart => exact ⟨0, 0, _, [], Nat.zero_le _, rfl, by go_num, by show ∀ r ∈ _, _; simp, hownS, hownp, hcS, houtS⟩
    case round =>
      obtain ⟨j, c1, a1, xss, hj, rfl, rfl, H9, HO, HP, HC, HOut⟩ := hrel
      by_cases hlt : j < pn
      · have hba := below_alloc wr (.cells (([1, 1, 1, 2, 3] : List Int).map (.int .i64)).toArray 3)
        have hK := l1PickInt_any cu _ _ _ [1, 1, 1, 2, 3] _ (HC.out.below hba) (litI wr [1, 1, 1, 2, 3] (by decide)) (by decide) (fun p hp => by obtain rfl := Option.some.inj hp; exact HC.out.lt)
        go_wp2_with fail
        refine hK.mono ?_
        rintro e wy ⟨y, rfl, hy, hcy, hoy0⟩
        have hy2 : 1 ≤ y ∧ y ≤ 3 := by revert hy; revert y; decide
        have hoy : Out cu (cu + 1) wr wy := (Below.out hba).trans hoy0
        have HOy := (HO.out.out hoy (.inr hcl))
        have HPy := HP.out.outC hoy hcl
        have houty := HOut.out.trans hoy
        clear hK hoy0 hba hy
        have hL := l2Draw_any cu y wy hcy (by omega) (by omega)
        go_wp2_with fail
        refine hL.mono ?_
        rintro e wv ⟨g', n', c', ys, rfl, hn', ho', hc4, ho4⟩
        clear hL
        have hszr := HOut.out.size
        have hszy := hoy.size
        have hsz4 := ho4.size
        have hown4 : OwnII wv w.heap.size wr.heap.size a1 j c1 xss := (HOy.out ho4 (.inr hcl))
        have hp4 : OwnI wv w.heap.size pa pn pc ps := (HPy.outC ho4 hcl)
        have hout4 := houty.trans ho4
        have hrow := ho'.ins
        have hBv : w.heap.size ≤ wv.heap.size := by omega
        have hBr : w.heap.size ≤ wr.heap.size := by omega
        have h9 : Hid (∀ r ∈ xss ++ [ys], r.length ≤ 9) := by
          show ∀ r ∈ _, _
          intro r hr
          rcases List.mem_append.1 hr with h1 | h1
          · exact H9.out r h1
          · simp only [List.mem_singleton] at h1
            have h2 := ho'.1
            rw [h1]; omega
        have hne := hp4.neII hown4
        clear HO HOut ho4 ho' HP HOy HPy houty hoy
        go_wp2_with (at_builtin; refine wpList_appII rfl _ _ rfl w.heap.size wr.heap.size wy.heap.size _ _ _ _ rfl hown4 _ _ _ _ hrow hszy hBr _ rfl rfl (by omega) hBv (by omega) ?_)
        intro a9 c9 w9 g1 g2 g3
        have HO9 := Lib.hid g1
        have HP9 := Lib.hid (hp4.grown g3 hne)
        have HC9 := Lib.hid (hc4.belowAt g2 hcl)
        have HT9 := Lib.hid (hout4.onBelow (g2))
        clear g1 g2 g3 hown4 hrow hp4 hne
        go_wp2
        go_roundw
        case rel => exact ⟨j + 1, c9, a9, _, by omega, rfl, by go_num, h9, HO9.out, HP9.out, HC9.out, HT9.out⟩
        case measure => simp [intOf]; omega
      · obtain rfl : j = pn := by omega
        have hbd : Hid (totL xss ≤ 2097152 ∧ xss.length ≤ 2097152) := by
          show _ ∧ _
          have h1 := totL_bound (m := 9) H9.out
          have h2 := HO.out.len
          omega
        have hI := spec_InflateBy pa j pc ps a1 j c1 xss wr (HP.out.sl (by omega)) (HO.out.iisT hbd.out)
        have hil := length_infP ps xss
        obtain ⟨v, hv⟩ : ∃ v, v = decide (IOk ps xss) := ⟨_, rfl⟩
        rw [← hv] at hI
        clear hv HO
        go_wp2_with fail
        refine hI.mono ?_
        rintro e w6 ⟨qa, qn, qc, rfl, hoq, hb6⟩
        have hq8 : qn ≤ 8 := by have h1 := hoq.1; omega
        have HP6 := Lib.hid (HP.out.below hb6)
        have HQ6 := Lib.hid (hoq.mono HOut.out.size)
        have HC6 := Lib.hid (HC.out.below hb6)
        have HT6 := Lib.hid (HOut.out.onBelow (hb6.mono HOut.out.size))
        clear hI hoq HP
        cases v with
        | true =>
          go_wp2
          go_ret
          exact ⟨qa, qn, qc, _, rfl, by omega, HQ6.out, HC6.out, HT6.out⟩
        | false =>
          go_wp2
          go_ret
          exact ⟨pa, j, pc, _, rfl, by omega, HP6.out, HC6.out, HT6.out⟩
  | false =>
    obtain ⟨wx, rfl⟩ : ∃ wx : World, wx = w3 := ⟨_, rfl⟩
    obtain ⟨pa, hpa⟩ : ∃ pa : Option Addr, pa = some ⟨g, 0, none⟩ := ⟨_, rfl⟩
    obtain ⟨pn, rfl⟩ : ∃ pn : Nat, pn = m := ⟨_, rfl⟩
    obtain ⟨pc, rfl⟩ : ∃ pc : Nat, pc = d := ⟨_, rfl⟩
    obtain ⟨ps, rfl⟩ : ∃ ps, ps = xs0 := ⟨_, rfl⟩
    have hp9 := hm9
    have hown := hown3
    have hout := hout3
    have hcx := hc3
    rw [← hpa] at hown
    clear hown3 hout3 hm9
    rw [← hpa]
    clear hpa
    have hba := below_alloc wx (.cells #[] 28)
    have hownS : OwnII (wx.alloc (.cells #[] 28)) w.heap.size (wx.alloc (.cells #[] 28)).heap.size (some ⟨wx.heap.size, 0, none⟩) 0 0 [] := (OwnII.start wx).mono hout.size (Nat.le_refl _)
    have hownp := hown.below hba
    have hcS := hcx.below hba
    have houtS := hout.onBelow (hba.mono hout.size)
    clear hba hown
    go_wp2
    go_loopw [4, 5] (fun ov kv wr => ∃ (j c : Nat) (a : Option Addr) (xss : List (List Int)), j ≤ pn ∧ ov = .slice a j c ∧ kv = .int .i64 (j : Int) ∧ Hid (∀ r ∈ xss, r.length ≤ 9) ∧ Hid (OwnII wr w.heap.size wr.heap.size a j c xss) ∧ Hid (OwnI wr w.heap.size pa pn pc ps) ∧ Hid (Cur wr cu) ∧ Hid (Out cu (cu + 1) w wr)) (fun _ kv _ => pn - (intOf kv).toNat)
    case atStart => exact ⟨0, 0, _, [], Nat.zero_le _, rfl, by go_num, by show ∀ r ∈ _, _; simp, hownS, hownp, hcS, houtS⟩
    case round =>
      obtain ⟨j, c1, a1, xss, hj, rfl, rfl, H9, HO, HP, HC, HOut⟩ := hrel
      by_cases hlt : j < pn
      · have hba := below_alloc wr (.cells (([1, 1, 1, 2, 3] : List Int).map (.int .i64)).toArray 3)
        have hK := l1PickInt_any cu _ _ _ [1, 1, 1, 2, 3] _ (HC.out.below hba) (litI wr [1, 1, 1, 2, 3] (by decide)) (by decide) (fun p hp => by obtain rfl := Option.some.inj hp; exact HC.out.lt)
        go_wp2_with fail
        refine hK.mono ?_
        rintro e wy ⟨y, rfl, hy, hcy, hoy0⟩
        have hy2 : 1 ≤ y ∧ y ≤ 3 := by revert hy; revert y; decide
        have hoy : Out cu (cu + 1) wr wy := (Below.out hba).trans hoy0
        have HOy := (HO.out.out hoy (.inr hcl))
        have HPy := HP.out.outC hoy hcl
        have houty := HOut.out.trans hoy
        clear hK hoy0 hba hy
        have hL := l2Draw_any cu y wy hcy (by omega) (by omega)
        go_wp2_with fail
        refine hL.mono ?_
        rintro e wv ⟨g', n', c', ys, rfl, hn', ho', hc4, ho4⟩
        clear hL
        have hszr := HOut.out.size
        have hszy := hoy.size
        have hsz4 := ho4.size
        have hown4 : OwnII wv w.heap.size wr.heap.size a1 j c1 xss := (HOy.out ho4 (.inr hcl))
        have hp4 : OwnI wv w.heap.size pa pn pc ps := (HPy.outC ho4 hcl)
        have hout4 := houty.trans ho4
        have hrow := ho'.ins
        have hBv : w.heap.size ≤ wv.heap.size := by omega
        have hBr : w.heap.size ≤ wr.heap.size := by omega
        have h9 : Hid (∀ r ∈ xss ++ [ys], r.length ≤ 9) := by
          show ∀ r ∈ _, _
          intro r hr
          rcases List.mem_append.1 hr with h1 | h1
          · exact H9.out r h1
          · simp only [List.mem_singleton] at h1
            have h2 := ho'.1
            rw [h1]; omega
        have hne := hp4.neII hown4
        clear HO HOut ho4 ho' HP HOy HPy houty hoy
        go_wp2_with (at_builtin; refine wpList_appII rfl _ _ rfl w.heap.size wr.heap.size wy.heap.size _ _ _ _ rfl hown4 _ _ _ _ hrow hszy hBr _ rfl rfl (by omega) hBv (by omega) ?_)
        intro a9 c9 w9 g1 g2 g3
        have HO9 := Lib.hid g1
        have HP9 := Lib.hid (hp4.grown g3 hne)
        have HC9 := Lib.hid (hc4.belowAt g2 hcl)
        have HT9 := Lib.hid (hout4.onBelow (g2))
        clear g1 g2 g3 hown4 hrow hp4 hne
        go_wp2
        go_roundw
        case rel => exact ⟨j + 1, c9, a9, _, by omega, rfl, by go_num, h9, HO9.out, HP9.out, HC9.out, HT9.out⟩
        case measure => simp [intOf]; omega
      · obtain rfl : j = pn := by omega
        have hbd : Hid (totL xss ≤ 2097152 ∧ xss.length ≤ 2097152) := by
          show _ ∧ _
          have h1 := totL_bound (m := 9) H9.out
          have h2 := HO.out.len
          omega
        have hI := spec_InflateBy pa j pc ps a1 j c1 xss wr (HP.out.sl (by omega)) (HO.out.iisT hbd.out)
        have hil := length_infP ps xss
        obtain ⟨v, hv⟩ : ∃ v, v = decide (IOk ps xss) := ⟨_, rfl⟩
        rw [← hv] at hI
        clear hv HO
        go_wp2_with fail
        refine hI.mono ?_
        rintro e w6 ⟨qa, qn, qc, rfl, hoq, hb6⟩
        have hq8 : qn ≤ 8 := by have h1 := hoq.1; omega
        have HP6 := Lib.hid (HP.out.below hb6)
        have HQ6 := Lib.hid (hoq.mono HOut.out.size)
        have HC6 := Lib.hid (HC.out.below hb6)
        have HT6 := Lib.hid (HOut.out.onBelow (hb6.mono HOut.out.size))
        clear hI hoq HP
        cases v with
        | true =>
          go_wp2
          go_ret
          exact ⟨qa, qn, qc, _, rfl, by omega, HQ6.out, HC6.out, HT6.out⟩
        | false =>
          go_wp2
          go_ret
          exact ⟨pa, j, pc, _, rfl, by omega, HP6.out, HC6.out, HT6.out⟩

set_option maxHeartbeats 600000 in
theorem l5Bent_any (cu : Nat) (w : World) (h : Cur w cu) :
    Calls Try.prog 65 #[.pointer (some ⟨cu, 0, none⟩)] w (RetDLA w cu 9) := by
  have hO := l1Once_any cu 3 w h (by omega) (by omega)
  go_enter Try.func65, Try.ntmps65
  go_wp2_with fail
  refine hO.mono ?_
  rintro e w1 ⟨b, rfl, hc1, ho1⟩
  clear hO
  cases b with
  | true =>
    have hW := l2Bent_any cu w1 hc1
    go_wp2_with fail
    refine hW.mono ?_
    rintro e w2 ⟨g, m, d, xs, rfl, hm, ho, hc2, ho2⟩
    have hout := ho1.trans ho2
    have HO := Lib.hid (ho.mono ho1.size)
    clear ho
    go_wp2
    go_ret
    exact ⟨_, m, d, xs, rfl, hm, HO.out, hc2, hout⟩
  | false =>
    have hW := l5Inflated_any cu w1 hc1
    go_wp2_with fail
    refine hW.mono ?_
    rintro e w2 ⟨pa, m, d, xs, rfl, hm, ho, hc2, ho2⟩
    have hout := ho1.trans ho2
    have HO := Lib.hid (ho.mono ho1.size)
    clear ho
    go_wp2
    go_ret
    exact ⟨_, m, d, xs, rfl, hm, HO.out, hc2, hout⟩
end Go.Proofs.Ytmojniiimondfaa
namespace Go.Proofs.Ytmojniiimondfaa
open Go.RowKit

/-- A list and two integers, given back by a draw. -/
def RetDAN (w : World) (e : Ending) (w' : World) : Prop := ∃ a n c xs f t, e = .returned (.tuple #[.slice a n c, .int .i64 f, .int .i64 t]) ∧ n ≤ 9 ∧ -1 ≤ f ∧ f ≤ 20 ∧ -1 ≤ t ∧ t ≤ 20 ∧ OwnI w' w.heap.size a n c xs ∧ Below w.heap.size w w'

set_option maxHeartbeats 1000000 in
theorem drawClosureOf_any (a : Option Addr) (n c : Nat) (w : World) (hn : n ≤ 1048576) (h : Byts w w.heap.size a n) :
    Calls Try.prog 19 #[.slice a n c] w (RetDAN w) := by
  have hC := l1New_any a n c w hn h
  go_enter Try.func19, Try.ntmps19
  go_wp2_with fail
  refine hC.mono ?_
  rintro e w1 ⟨cu, rfl, hcu, hc1, hb1⟩
  have hcl := hc1.lt
  clear hC
  have hW := l5Bent_any cu w1 hc1
  go_wp2_with fail
  refine hW.mono ?_
  rintro e w2 ⟨pa, pn, pc, ps, rfl, hp9, ho, hc2, ho2⟩
  have hM := l1Max_any 1 (pn : Int) w2
  clear hW
  go_wp2_with fail
  refine hM.mono ?_
  rintro e w2' ⟨rfl, hw2⟩
  obtain rfl : w2 = w2' := hw2.symm
  obtain ⟨m, hm⟩ : ∃ m : Int, m = max 1 (pn : Int) := ⟨_, rfl⟩
  have hm1 : 1 ≤ m ∧ m ≤ 9 := by omega
  rw [← hm]
  have hL := l1Below_any cu m w2 hc2 (by omega) (by omega)
  rw [upB_pos (by omega)] at hL
  clear hM hm
  go_wp2_with fail
  refine hL.mono ?_
  rintro e w3 ⟨x, rfl, hx1, hx2, hc3, ho3⟩
  have hown3 := ho.outC ho3 hcl
  have hout3 := ho2.trans ho3
  have hO := l1Once_any cu 12 w3 hc3 (by omega) (by omega)
  clear hL ho ho2 ho3
  go_wp2_with fail
  refine hO.mono ?_
  rintro e w4 ⟨b, rfl, hc4, ho4⟩
  have hown4 := hown3.outC ho4 hcl
  have hout4 := hout3.trans ho4
  have hB := l1Bit_any b w4
  clear hO hown3 hout3 ho4
  obtain ⟨v, hv⟩ : ∃ v : Int, v = (if b then 1 else 0) := ⟨_, rfl⟩
  have hv1 : 0 ≤ v ∧ v ≤ 1 := by cases b <;> simp [hv]
  rw [← hv] at hB
  clear hv
  go_wp2_with fail
  refine hB.mono ?_
  rintro e w4' ⟨rfl, hw4⟩
  obtain rfl : w4 = w4' := hw4.symm
  have hL := l1Below_any cu m w4 hc4 (by omega) (by omega)
  rw [upB_pos (by omega)] at hL
  clear hB
  go_wp2_with fail
  refine hL.mono ?_
  rintro e w5 ⟨y, rfl, hy1, hy2, hc5, ho5⟩
  have hown5 := hown4.outC ho5 hcl
  have hout5 := hout4.trans ho5
  have hO := l1Once_any cu 12 w5 hc5 (by omega) (by omega)
  clear hL hown4 hout4 ho5
  go_wp2_with fail
  refine hO.mono ?_
  rintro e w6 ⟨b2, rfl, hc6, ho6⟩
  have hown6 := hown5.outC ho6 hcl
  have hout6 := hout5.trans ho6
  have hB := l1Bit_any b2 w6
  clear hO hown5 hout5 ho6
  obtain ⟨v2, hv2⟩ : ∃ v : Int, v = (if b2 then 1 else 0) := ⟨_, rfl⟩
  have hv3 : 0 ≤ v2 ∧ v2 ≤ 1 := by cases b2 <;> simp [hv2]
  rw [← hv2] at hB
  clear hv2
  go_wp2_with fail
  refine hB.mono ?_
  rintro e w6' ⟨rfl, hw6⟩
  obtain rfl : w6 = w6' := hw6.symm
  have hbe := draw_below hcu hb1 hout6
  have HO := Lib.hid (hown6.mono hb1.size)
  clear hB hown6
  go_wp2
  go_ret3
  exact ⟨pa, pn, pc, ps, _, _, rfl, hp9, by omega, by omega, by omega, by omega, HO.out, hbe⟩

set_option maxHeartbeats 1000000 in
theorem drawIsSimple_any (a : Option Addr) (n c : Nat) (w : World) (hn : n ≤ 1048576) (h : Byts w w.heap.size a n) :
    Calls Try.prog 23 #[.slice a n c] w (RetDA w 9) := by
  have hC := l1New_any a n c w hn h
  go_enter Try.func23, Try.ntmps23
  go_wp2_with fail
  refine hC.mono ?_
  rintro e w1 ⟨cu, rfl, hcu, hc1, hb1⟩
  have hcl := hc1.lt
  clear hC
  have hO := l1Once_any cu 3 w1 hc1 (by omega) (by omega)
  go_wp2_with fail
  refine hO.mono ?_
  rintro e w3 ⟨b, rfl, hc3, hout3⟩
  clear hO
  cases b with
  | true =>
    have hba3 := below_alloc w3 (.cells (s2L.map .string).toArray 9)
    have hP := l1Pick_any cu _ _ _ s2L _ (hc3.below hba3) (litS w3 s2L (by decide)) (by decide) (fun p hp => by obtain rfl := Option.some.inj hp; exact hc3.lt)
    have hout3a := hout3.onBelow (hba3.mono hout3.size)
    go_wp2_with fail
    refine hP.mono ?_
    rintro e w4 ⟨t, rfl, ht, hc4, ho4⟩
    have hts := s2_small t ht
    have hPP := spec_ParsePerm t w4 (by omega)
    have hpl := length_prsP t
    have hbe := draw_below hcu hb1 (hout3a.trans ho4)
    generalize prsB t = tb at hPP
    clear hP ht hba3 ho4 hout3a
    go_wp2_with fail
    refine hPP.mono ?_
    rintro e w5 ⟨pa, pn, pc, rfl, hop, hb5⟩
    have hp9 : pn ≤ 9 := by have h1 := hop.1; omega
    have HO := Lib.hid (hop.mono hbe.size)
    have hbf := hbe.trans (hb5.mono hbe.size)
    clear hPP hop
    go_wp2
    go_ret
    exact ⟨pa, pn, pc, _, rfl, hp9, HO.out, hbf⟩
  | false =>
    have hW := l5Bent_any cu w3 hc3
    go_wp2_with fail
    refine hW.mono ?_
    rintro e w4 ⟨pa, pn, pc, ps, rfl, hp9, ho, hc4, ho4⟩
    have hbe := draw_below hcu hb1 (hout3.trans ho4)
    have HO := Lib.hid (ho.mono (Nat.le_trans hb1.size hout3.size))
    clear ho
    go_wp2
    go_ret
    exact ⟨pa, pn, pc, ps, rfl, hp9, HO.out, hbe⟩

set_option maxHeartbeats 1000000 in
theorem drawIsInterval_any (a : Option Addr) (n c : Nat) (w : World) (hn : n ≤ 1048576) (h : Byts w w.heap.size a n) :
    Calls Try.prog 22 #[.slice a n c] w (RetDAN w) := by
  have hC := l1New_any a n c w hn h
  go_enter Try.func22, Try.ntmps22
  go_wp2_with fail
  refine hC.mono ?_
  rintro e w1 ⟨cu, rfl, hcu, hc1, hb1⟩
  have hcl := hc1.lt
  clear hC
  have hW := l5Bent_any cu w1 hc1
  go_wp2_with fail
  refine hW.mono ?_
  rintro e w2 ⟨pa, pn, pc, ps, rfl, hp9, ho, hc2, ho2⟩
  have hI := spec_IntervalsOf pa pn pc ps w2 (ho.sl (by omega))
  clear hW
  go_wp2_with fail
  refine hI.mono ?_
  rintro e w3 ⟨la, ln, lc, rfl, hol, hb3⟩
  have hown3 := ho.below hb3
  have hout3 : Out cu (cu + 1) w1 w3 := ho2.onBelow (hb3.mono ho2.size)
  have hc3 := hc2.below hb3
  have hc2l := hc2.lt
  have hll : ln ≤ 64 := by have h1 := hol.len; have h2 := length_ivsP ps; omega
  have HOK : Hid (∀ r ∈ ivsP ps, ∃ A B : Int, r = [A, B] ∧ ivP ps A B = true ∧ 1 ≤ A ∧ A ≤ 8 ∧ 1 ≤ B ∧ B ≤ 8) := ivs_ok ps
  clear hI ho hb3 ho2
  have hdone : ∀ (wz : World), OwnI wz w1.heap.size pa pn pc ps → Cur wz cu → Out cu (cu + 1) w1 wz → True := fun _ _ _ _ => trivial
  clear hdone
  by_cases h0 : (0 : Int) < (ln : Int)
  · have hO := l1Once_any cu 2 w3 hc3 (by omega) (by omega)
    go_wp2_with fail
    refine hO.mono ?_
    rintro e w4 ⟨b, rfl, hc4, ho4⟩
    have hown4 := hown3.outC ho4 hcl
    have hout4 := hout3.trans ho4
    have hol4 := hol.out ho4 (.inr hc2l)
    clear hO hown3 hout3 hol ho4
    cases b with
    | true =>
      have hL := l1Below_any cu (ln : Int) w4 hc4 (by omega) (by omega)
      rw [upB_pos (by omega)] at hL
      go_wp2_with fail
      refine hL.mono ?_
      rintro e w5 ⟨x, rfl, hx1, hx2, hc5, ho5⟩
      obtain ⟨k, rfl⟩ : ∃ k : Nat, x = k := ⟨x.toNat, by omega⟩
      have hkl : k < ln := by omega
      have hown5 := hown4.outC ho5 hcl
      have hout5 := hout4.trans ho5
      have hol5 := hol4.out ho5 (.inr hc2l)
      have hbe := draw_below hcu hb1 hout5
      have HO := Lib.hid (hown5.mono hb1.size)
      obtain ⟨lg, ra, rn, rc, r, rfl, hcell, hrow, HX, _⟩ := hol5.row hkl
      obtain ⟨A, B, rfl, _, hA1, hA8, hB1, hB8⟩ := HOK.out r (List.mem_of_getElem? HX.out)
      have hr2 : rn = 2 := hrow.1.1.symm
      subst hr2
      obtain ⟨rg, rfl, _, _⟩ := hrow.1.head (by omega)
      have e0 : rg = rg := rfl
      obtain ⟨y0, hy0, HY0⟩ := hrow.1.cell (j := 0) (by omega)
      obtain ⟨y1, hy1, HY1⟩ := hrow.1.cell (j := 1) (by omega)
      have q0 := HY0.out
      have q1 := HY1.out
      simp only [List.getElem?_cons_zero, Option.some.injEq] at q0
      simp only [List.getElem?_cons_succ, List.getElem?_cons_zero, Option.some.injEq] at q1
      subst q0
      subst q1
      clear hL hown4 hout4 hol4 hown5 hol5 hrow HX HY0 HY1 e0 ho5
      go_wp2
      go_quiet (fail)
      go_wp2
      go_ret3
      exact ⟨pa, pn, pc, ps, _, _, rfl, hp9, by omega, by omega, by omega, by omega, HO.out.drewN _, hbe.trans (((Quiet.refl _).drewN _).below _)⟩
    | false =>
      have hL := l1Below_any cu 10 w4 hc4 (by omega) (by omega)
      rw [upB_pos (by omega)] at hL
      go_wp2_with fail
      refine hL.mono ?_
      rintro e w7 ⟨x, rfl, hx1, hx2, hc7, ho7⟩
      have hL2 := l1Below_any cu 10 w7 hc7 (by omega) (by omega)
      rw [upB_pos (by omega)] at hL2
      have hown7 := hown4.outC ho7 hcl
      have hout7 := hout4.trans ho7
      clear hL
      go_wp2_with fail
      refine hL2.mono ?_
      rintro e w8 ⟨y, rfl, hy1, hy2, hc8, ho8⟩
      have hbe := draw_below hcu hb1 (hout7.trans ho8)
      have HO := Lib.hid ((hown7.outC ho8 hcl).mono hb1.size)
      clear hL2 hown7
      go_wp2
      go_ret3
      exact ⟨pa, pn, pc, ps, _, _, rfl, hp9, by omega, by omega, by omega, by omega, HO.out, hbe⟩
  · have hL := l1Below_any cu 10 w3 hc3 (by omega) (by omega)
    rw [upB_pos (by omega)] at hL
    go_wp2_with fail
    refine hL.mono ?_
    rintro e w7 ⟨x, rfl, hx1, hx2, hc7, ho7⟩
    have hL2 := l1Below_any cu 10 w7 hc7 (by omega) (by omega)
    rw [upB_pos (by omega)] at hL2
    have hown7 := hown3.outC ho7 hcl
    have hout7 := hout3.trans ho7
    clear hL
    go_wp2_with fail
    refine hL2.mono ?_
    rintro e w8 ⟨y, rfl, hy1, hy2, hc8, ho8⟩
    have hbe := draw_below hcu hb1 (hout7.trans ho8)
    have HO := Lib.hid ((hown7.outC ho8 hcl).mono hb1.size)
    clear hL2 hown7
    go_wp2
    go_ret3
    exact ⟨pa, pn, pc, ps, _, _, rfl, hp9, by omega, by omega, by omega, by omega, HO.out, hbe⟩

theorem lstB {xss : List (List Int)} {j : Nat} {H : Hid (∀ r ∈ xss, r.length ≤ 9)} (h : xss.length = j) (hj : j ≤ 100) : Hid (totL xss ≤ 1048576 ∧ xss.length ≤ 1048576) := by
  show _ ∧ _
  have h1 := totL_bound (m := 9) H.out
  omega
set_option maxHeartbeats 1000000 in
theorem drawInflateBy_any (a : Option Addr) (n c : Nat) (w : World) (hn : n ≤ 1048576) (h : Byts w w.heap.size a n) :
    Calls Try.prog 24 #[.slice a n c] w fun e w' => ∃ g n c xs a m d xss, e = .returned (.tuple #[.slice (some ⟨g, 0, none⟩) n c, .slice a m d]) ∧ n ≤ 9 ∧ Hid (totL xss ≤ 1048576 ∧ xss.length ≤ 1048576) ∧ OwnI w' w.heap.size (some ⟨g, 0, none⟩) n c xs ∧ OwnII w' w.heap.size w'.heap.size a m d xss ∧ Below w.heap.size w w' := by
  have hC := l1New_any a n c w hn h
  go_enter Try.func24, Try.ntmps24
  go_wp2_with fail
  refine hC.mono ?_
  rintro e w1 ⟨cu, rfl, hcu, hc1, hb1⟩
  have hcl := hc1.lt
  clear hC
  have hL := l1Below_any cu 4 w1 hc1 (by omega) (by omega)
  rw [upB_pos (by omega)] at hL
  go_wp2_with fail
  refine hL.mono ?_
  rintro e w2 ⟨x, rfl, hx1, hx2, hc2, ho2⟩
  have hW := l2DrawE_any cu (1 + x) w2 hc2 (by omega) (by omega)
  clear hL
  go_wp2_with fail
  refine hW.mono ?_
  rintro e wx ⟨pg, pn, pc, ps, rfl, hm, ho, hcx, ho3⟩
  have hown : OwnI wx w1.heap.size (some ⟨pg, 0, none⟩) pn pc ps := ho.mono ho2.size
  have hout : Out cu (cu + 1) w1 wx := ho2.trans ho3
  have hpn1 : 1 ≤ pn ∧ pn ≤ 4 := by omega
  clear hW ho ho2 ho3 hm
  have hba := below_alloc wx (.cells #[] 28)
  have hownS : OwnII (wx.alloc (.cells #[] 28)) w1.heap.size (wx.alloc (.cells #[] 28)).heap.size (some ⟨wx.heap.size, 0, none⟩) 0 0 [] := (OwnII.start wx).mono hout.size (Nat.le_refl _)
  have hownp := hown.below hba
  have hcS := hcx.below hba
  have houtS := hout.onBelow (hba.mono hout.size)
  clear hba hown
  go_wp2
  go_loopw [6, 7] (fun ov kv wr => ∃ (j c : Nat) (a : Option Addr) (xss : List (List Int)), j ≤ pn ∧ ov = .slice a j c ∧ kv = .int .i64 (j : Int) ∧ Hid (∀ r ∈ xss, r.length ≤ 9) ∧ Hid (OwnII wr w1.heap.size wr.heap.size a j c xss) ∧ Hid (OwnI wr w1.heap.size (some ⟨pg, 0, none⟩) pn pc ps) ∧ Hid (Cur wr cu) ∧ Hid (Out cu (cu + 1) w1 wr)) (fun _ kv _ => pn - (intOf kv).toNat)
  case atStart => exact ⟨0, 0, _, [], Nat.zero_le _, rfl, by go_num, by show ∀ r ∈ _, _; simp, hownS, hownp, hcS, houtS⟩
  case round =>
    obtain ⟨j, c1, a1, xss, hj, rfl, rfl, H9, HO, HP, HC, HOut⟩ := hrel
    by_cases hlt : j < pn
    · have hK := l1Below_any cu 2 wr HC.out (by omega) (by omega)
      rw [upB_pos (by omega)] at hK
      go_wp2_with fail
      refine hK.mono ?_
      rintro e wy ⟨y, rfl, hy1, hy2, hcy, hoy⟩
      have HOy := (HO.out.out hoy (.inr hcl))
      have HPy := HP.out.outC hoy hcl
      have houty := HOut.out.trans hoy
      clear hK
      have hL := l2Draw_any cu (1 + y) wy hcy (by omega) (by omega)
      go_wp2_with fail
      refine hL.mono ?_
      rintro e wv ⟨g', n', c', ys, rfl, hn', ho', hc4, ho4⟩
      clear hL
      have hszr := HOut.out.size
      have hszy := hoy.size
      have hsz4 := ho4.size
      have hown4 : OwnII wv w1.heap.size wr.heap.size a1 j c1 xss := (HOy.out ho4 (.inr hcl))
      have hp4 : OwnI wv w1.heap.size (some ⟨pg, 0, none⟩) pn pc ps := (HPy.outC ho4 hcl)
      have hout4 := houty.trans ho4
      have hrow := ho'.ins
      have hBv : w1.heap.size ≤ wv.heap.size := by omega
      have hBr : w1.heap.size ≤ wr.heap.size := by omega
      have h9 : Hid (∀ r ∈ xss ++ [ys], r.length ≤ 9) := by
        show ∀ r ∈ _, _
        intro r hr
        rcases List.mem_append.1 hr with h1 | h1
        · exact H9.out r h1
        · simp only [List.mem_singleton] at h1
          have h2 := ho'.1
          rw [h1]; omega
      have hne := hp4.neII hown4
      clear HO HOut ho4 ho' HP HOy HPy houty hoy
      go_wp2_with (at_builtin; refine wpList_appII rfl _ _ rfl w1.heap.size wr.heap.size wy.heap.size _ _ _ _ rfl hown4 _ _ _ _ hrow hszy hBr _ rfl rfl (by omega) hBv (by omega) ?_)
      intro a9 c9 w9 g1 g2 g3
      have HO9 := Lib.hid g1
      have HP9 := Lib.hid (hp4.grown g3 hne)
      have HC9 := Lib.hid (hc4.belowAt g2 hcl)
      have HT9 := Lib.hid (hout4.onBelow (g2))
      clear g1 g2 g3 hown4 hrow hp4 hne
      go_wp2
      go_roundw
      case rel => exact ⟨j + 1, c9, a9, _, by omega, rfl, by go_num, h9, HO9.out, HP9.out, HC9.out, HT9.out⟩
      case measure => simp [intOf]; omega
    · obtain rfl : j = pn := by omega
      have hszr := HOut.out.size
      have hL := l1Below_any cu 12 wr HC.out (by omega) (by omega)
      rw [upB_pos (by omega)] at hL
      go_wp2_with fail
      refine hL.mono ?_
      rintro e w7 ⟨z, rfl, hz1, hz2, hc7, ho7⟩
      have hown7 := HO.out.out ho7 (.inr hcl)
      have hp7 := HP.out.outC ho7 hcl
      have hout7 := HOut.out.trans ho7
      have hsz7 := ho7.size
      have hjl := H9.out
      clear hL HO HP HOut ho7
      by_cases h0 : z = 0
      · subst h0
        have hba := below_alloc w7 (.cells #[.int .i64 1] 3)
        have hrow1 : OwnI (w7.alloc (.cells #[.int .i64 1] 3)) w7.heap.size (some ⟨w7.heap.size, 0, none⟩) 1 1 [1] := ⟨rfl, by simpa using World.ownsRow_lit (e := 3) (size := 1) (base := w7.heap.size) w7 #[.int .i64 1] 1 (Nat.le_refl _) (by unfold maxLen; omega) rfl⟩
        have hown8 := hown7.below hba
        have hp8 := hp7.below hba
        have hc8 := hc7.below hba
        have hout8 := hout7.onBelow (hba.mono hout7.size)
        have hrow := hrow1.ins
        have hne := hp8.neII hown8
        have h9 : Hid (∀ r ∈ xss ++ [[1]], r.length ≤ 9) := by
          show ∀ r ∈ _, _
          intro r hr
          rcases List.mem_append.1 hr with h1 | h1
          · exact H9.out r h1
          · simp only [List.mem_singleton] at h1; rw [h1]; simp
        clear hown7 hp7 hc7 hout7 hrow1
        go_wp2_with (at_builtin; refine wpList_appII rfl _ _ rfl w1.heap.size wr.heap.size w7.heap.size _ _ _ _ rfl hown8 _ _ _ _ hrow hsz7 hszr _ rfl (by simp) (by omega) (by simp; omega) (by simp; omega) ?_)
        intro a9 c9 w9 g1 g2 g3
        have hbd := lstB (H := h9) g1.len (by omega)
        have HO9 := Lib.hid (g1.mono hb1.size (Nat.le_refl _))
        have HP9 := Lib.hid ((hp8.grown g3 hne).mono hb1.size)
        have hbe := draw_below hcu hb1 (hout8.onBelow g2)
        clear g1 g2 g3 hown8 hrow hp8 hne
        go_wp2
        go_ret2
        exact ⟨_, _, _, _, _, _, _, _, rfl, by omega, hbd, HP9.out, HO9.out, hbe⟩
      · have e0 : (z == 0) = false := by rw [beq_eq_false_iff_ne]; exact h0
        by_cases h1 : z = 1
        · subst h1
          have hj0 : 0 < j := by omega
          have hB := l2Bent_any cu w7 hc7
          go_wp2_with fail
          refine hB.mono ?_
          rintro e w5 ⟨g', n', c', ys, rfl, hn', ho', hc5, ho5⟩
          have hown5 := hown7.out ho5 (.inr hcl)
          have hp5 := hp7.outC ho5 hcl
          have hout5 := hout7.trans ho5
          have hsz5 := ho5.size
          have hne := hp5.neII hown5
          obtain ⟨g, ra, rn, rc, zs, rfl, hcell, _, _, _⟩ := hown5.row hj0
          obtain ⟨p1, p2, p3, hfz, p5⟩ := hown5.put hj0 ho'.ins (by omega) hszr (by omega)
          have hb9 : Below w1.heap.size w5 (w5.setCell ⟨g, 0, none⟩ (.slice (some ⟨g', 0, none⟩) n' c')) := grownBy_below p2 (by omega) (fun k hk => by cases hk; exact p3)
          have h9 : Hid (∀ r ∈ xss.set 0 ys, r.length ≤ 9) := by
            show ∀ r ∈ _, _
            intro r hr
            rcases List.mem_or_eq_of_mem_set hr with h1 | h1
            · exact H9.out r h1
            · have h2 := ho'.1
              rw [h1]; omega
          have hbd := lstB (H := h9) p1.len (by omega)
          have HO9 := Lib.hid (p1.mono hb1.size (Nat.le_of_eq p5.symm))
          have HP9 := Lib.hid ((hp5.grown p2 (by simpa [Value.ownBlock] using hne)).mono hb1.size)
          have hbe := draw_below hcu hb1 (hout5.onBelow hb9)
          clear hB hown7 hown5 hout7 hout5 p1 p2 hb9 ho5 ho' hp7 hp5 hne
          go_wp2
          go_ret2
          exact ⟨_, _, _, _, _, _, _, _, rfl, by omega, hbd, HP9.out, HO9.out, hbe⟩
        · have e1 : (z == 1) = false := by rw [beq_eq_false_iff_ne]; exact h1
          have hbd := lstB (H := H9) hown7.len (by omega)
          have HO9 := Lib.hid (hown7.mono hb1.size hsz7)
          have HP9 := Lib.hid (hp7.mono hb1.size)
          have hbe := draw_below hcu hb1 hout7
          clear hown7 hp7
          go_wp2
          go_ret2
          exact ⟨_, _, _, _, _, _, _, _, rfl, by omega, hbd, HP9.out, HO9.out, hbe⟩
end Go.Proofs.Ytmojniiimondfaa
namespace Go.Proofs.Ytmojniiimondfaa
open Go.RowKit

theorem two_cells {w : World} {a : Option Addr} {n c : Nat} {A B : Int} (h : SlI w a n c [A, B]) : ∃ ab ao, a = some ⟨ab, ao, none⟩ ∧ w.cell? ⟨ab, ao, none⟩ = some (.int .i64 A) ∧ w.cell? ⟨ab, ao + 1, none⟩ = some (.int .i64 B) := by
  obtain ⟨ab, ao, x, rfl, hx, HX⟩ := h.1.at (i := 0) (by simp)
  obtain ⟨ab2, ao2, y, e, hy, HY⟩ := h.1.at (i := 1) (by simp)
  have q0 := HX.out
  have q1 := HY.out
  simp only [List.getElem?_cons_zero, Option.some.injEq] at q0
  simp only [List.getElem?_cons_succ, List.getElem?_cons_zero, Option.some.injEq] at q1
  subst q0
  subst q1
  simp only [Option.some.injEq, Addr.mk.injEq, and_true] at e
  obtain ⟨rfl, rfl⟩ := e
  exact ⟨ab, ao, rfl, by simpa using hx, hy⟩
theorem keepS {w w' : World} {p : Addr} {v : Value} (h : w.cell? p = some v) (hb : Below w.heap.size w w') : w'.cell? p = some v := (hb.cell (World.block_lt_of_cell? w _ h)).trans h
theorem cnt_bd (xs : List Int) : -1 ≤ cntIv xs ∧ cntIv xs ≤ 100 := by
  unfold cntIv
  split
  · rename_i h
    have h1 := length_ivs h.1
    have h2 := h.1
    split <;> omega
  · omega

set_option maxHeartbeats 40000000 in
set_option maxRecDepth 100000 in
theorem FnIntervals_walk (a : Option Addr) (n c : Nat) (z : Unit) {w : World} (hin : InBytes w a n c z) :
    Calls Try.prog 5 #[.slice a n c] w fun e w' => e = .returned (.bool true) ∧ Below w.heap.size w w' := by
  obtain ⟨hC, hnc, hcm⟩ := hin
  have hG := big_any a n c w (by omega)
  by_cases hbig : 1048576 < n
  · rw [decide_eq_true hbig] at hG
    clear hbig
    go_enter Try.func5, Try.ntmps5
    go_wp2_with fail
    refine hG.mono ?_
    rintro e w1 ⟨rfl, rfl⟩
    go_wp2
    go_ret
    exact ⟨rfl, Below.refl _ _⟩
  rw [decide_eq_false hbig] at hG
  have hn : n ≤ 1048576 := by omega
  have hcode := Lib.hid hC
  clear hbig hnc hcm hC
  go_enter Try.func5, Try.ntmps5
  go_wp2_with fail
  refine hG.mono ?_
  rintro e w1 ⟨rfl, hw1⟩
  obtain rfl : w = w1 := hw1.symm
  clear hG
  go_wp2_with fail
  refine (drawClosureOf_any a n c _ hn hcode.out).mono ?_
  rintro e w1 ⟨ap, np, cp, xp, fr, to, rfl, hmp, hfr1, hfr2, hto1, hto2, ho, hb1⟩
  have tcode := Lib.hid ((hcode.out.below hb1).mono hb1.size); clear hcode; have hcode := tcode; clear tcode
  have hB1 : Below w.heap.size w w1 := hb1
  have hp := Lib.hid (ho.sl (by omega)); clear ho
  clear hb1
  have hwf1 : (Lit.int .i64 fr).wf = true := wf_mid (by omega) (by omega)
  have hwf2 : (Lit.int .i64 to).wf = true := wf_mid (by omega) (by omega)
  obtain ⟨b, hb0⟩ : ∃ b, b = decide (ClOk xp fr to) := ⟨_, rfl⟩
  obtain ⟨K, hK0⟩ : ∃ K, K = closP xp fr to := ⟨_, rfl⟩
  have HKI : Hid (∀ W, SlI W ap np cp xp → Calls Try.prog 20 #[.slice ap np cp, .int .i64 fr, .int .i64 to] W (RetIB W K b)) := fun W h => by rw [hb0, hK0]; exact impl_ClosureOf ap np cp xp fr to W h hwf1 hwf2
  have HKS : Hid (∀ W, SlI W ap np cp xp → Calls Try.prog 21 #[.slice ap np cp, .int .i64 fr, .int .i64 to] W (RetIB W K b)) := fun W h => by rw [hb0, hK0]; exact spec_ClosureOf ap np cp xp fr to W h hwf1 hwf2
  have HKL : Hid (K.length ≤ 2) := by show _ ≤ _; rw [hK0]; exact length_closP xp fr to
  have HKF : Hid (b = true → ∃ A B : Int, K = [A, B] ∧ ivP xp A B = true ∧ A ≤ fr ∧ A ≤ to ∧ fr ≤ B ∧ to ≤ B ∧ 1 ≤ A ∧ B ≤ (xp.length : Int)) := fun h => by rw [hK0]; exact clos_facts (of_decide_eq_true (by rw [← hb0]; exact h))
  clear hb0 hK0 hwf1 hwf2
  go_wp2_with fail
  refine (HKI.out _ hp.out).mono ?_
  rintro e w2 ⟨ak, nk, ck, rfl, ho, hb2⟩
  have tcode := Lib.hid ((hcode.out.below hb2).mono hb2.size); clear hcode; have hcode := tcode; clear tcode
  have tp := Lib.hid (hp.out.below hb2); clear hp; have hp := tp; clear tp
  have hB2 : Below w.heap.size w w2 := hB1.trans (hb2.mono hB1.size)
  have hk := Lib.hid (ho.sl (by have h1 := ho.1; have h2 := HKL.out; omega)); clear ho
  clear hb2
  go_wp2_with fail
  refine (HKS.out _ hp.out).mono ?_
  rintro e w3 ⟨awant, nwant, cwant, rfl, ho, hb3⟩
  have tcode := Lib.hid ((hcode.out.below hb3).mono hb3.size); clear hcode; have hcode := tcode; clear tcode
  have tp := Lib.hid (hp.out.below hb3); clear hp; have hp := tp; clear tp
  have tk := Lib.hid (hk.out.below hb3); clear hk; have hk := tk; clear tk
  have hB3 : Below w.heap.size w w3 := hB2.trans (hb3.mono hB2.size)
  have hwant := Lib.hid (ho.sl (by have h1 := ho.1; have h2 := HKL.out; omega)); clear ho
  clear hb3
  go_wp2_with fail
  refine (drawIsInterval_any a n c _ hn hcode.out).mono ?_
  rintro e w4 ⟨aS, nS, cS, xS, f2, t2, rfl, hmS, hf1, hf2, ht1, ht2, ho, hb4⟩
  have tcode := Lib.hid ((hcode.out.below hb4).mono hb4.size); clear hcode; have hcode := tcode; clear tcode
  have tp := Lib.hid (hp.out.below hb4); clear hp; have hp := tp; clear tp
  have tk := Lib.hid (hk.out.below hb4); clear hk; have hk := tk; clear tk
  have twant := Lib.hid (hwant.out.below hb4); clear hwant; have hwant := twant; clear twant
  have hB4 : Below w.heap.size w w4 := hB3.trans (hb4.mono hB3.size)
  have hS := Lib.hid (ho.sl (by omega)); clear ho
  clear hb4
  go_wp2_with fail
  refine (drawIsSimple_any a n c _ hn hcode.out).mono ?_
  rintro e w5 ⟨aZ, nZ, cZ, xZ, rfl, hmZ, ho, hb5⟩
  have tcode := Lib.hid ((hcode.out.below hb5).mono hb5.size); clear hcode; have hcode := tcode; clear tcode
  have tp := Lib.hid (hp.out.below hb5); clear hp; have hp := tp; clear tp
  have tk := Lib.hid (hk.out.below hb5); clear hk; have hk := tk; clear tk
  have twant := Lib.hid (hwant.out.below hb5); clear hwant; have hwant := twant; clear twant
  have tS := Lib.hid (hS.out.below hb5); clear hS; have hS := tS; clear tS
  have hB5 : Below w.heap.size w w5 := hB4.trans (hb5.mono hB4.size)
  have hZ := Lib.hid (ho.sl (by omega)); clear ho
  clear hb5
  go_wp2_with fail
  refine (drawInflateBy_any a n c _ hn hcode.out).mono ?_
  rintro e w6 ⟨gr, nr, cr, xr, al, nl, cl, LL, rfl, hmr, HLB, ho, ho2, hb6⟩
  have tcode := Lib.hid ((hcode.out.below hb6).mono hb6.size); clear hcode; have hcode := tcode; clear tcode
  have tp := Lib.hid (hp.out.below hb6); clear hp; have hp := tp; clear tp
  have tk := Lib.hid (hk.out.below hb6); clear hk; have hk := tk; clear tk
  have twant := Lib.hid (hwant.out.below hb6); clear hwant; have hwant := twant; clear twant
  have tS := Lib.hid (hS.out.below hb6); clear hS; have hS := tS; clear tS
  have tZ := Lib.hid (hZ.out.below hb6); clear hZ; have hZ := tZ; clear tZ
  have hB6 : Below w.heap.size w w6 := hB5.trans (hb6.mono hB5.size)
  have hr := Lib.hid (ho.sl (by omega)); have hl := Lib.hid (ho2.iisT ⟨by have := HLB.out; omega, by have := HLB.out; omega⟩); clear ho ho2
  clear hb6
  clear hcode
  obtain ⟨o, ho0⟩ : ∃ o, o = decide (IOk xr LL) := ⟨_, rfl⟩
  have HII : Hid (∀ W, SlI W (some ⟨gr, 0, none⟩) nr cr xr → IIs W al nl cl LL → Calls Try.prog 25 #[.slice (some ⟨gr, 0, none⟩) nr cr, .slice al nl cl] W (RetIB W (infP xr LL) o)) := fun W h k => by rw [ho0]; exact impl_InflateBy (some ⟨gr, 0, none⟩) nr cr xr al nl cl LL W h k
  have HIS : Hid (∀ W, SlI W (some ⟨gr, 0, none⟩) nr cr xr → IIs W al nl cl LL → Calls Try.prog 26 #[.slice (some ⟨gr, 0, none⟩) nr cr, .slice al nl cl] W (RetIB W (infP xr LL) o)) := fun W h k => by rw [ho0]; exact spec_InflateBy (some ⟨gr, 0, none⟩) nr cr xr al nl cl LL W h k
  have HOF : Hid (o = true → ∀ (k : Nat) (r : List Int), LL[k]? = some r → ivP (infP xr LL) ((totL (LL.take k) : Int) + 1) ((totL (LL.take k) : Int) + (r.length : Int)) = true) := fun h k r hr => block_iv (of_decide_eq_true (by rw [← ho0]; exact h)) hr
  clear ho0
  go_wp2_with fail
  refine (HII.out _ hr.out hl.out).mono ?_
  rintro e w7 ⟨ax, nx, cx, rfl, ho, hb7⟩
  have tp := Lib.hid (hp.out.below hb7); clear hp; have hp := tp; clear tp
  have tk := Lib.hid (hk.out.below hb7); clear hk; have hk := tk; clear tk
  have twant := Lib.hid (hwant.out.below hb7); clear hwant; have hwant := twant; clear twant
  have tS := Lib.hid (hS.out.below hb7); clear hS; have hS := tS; clear tS
  have tZ := Lib.hid (hZ.out.below hb7); clear hZ; have hZ := tZ; clear tZ
  have tr := Lib.hid (hr.out.below hb7); clear hr; have hr := tr; clear tr
  have tl := Lib.hid (hl.out.below hb7); clear hl; have hl := tl; clear tl
  have hB7 : Below w.heap.size w w7 := hB6.trans (hb7.mono hB6.size)
  have hx := Lib.hid (ho.sl (by have h1 := ho.1; have h2 := length_infP xr LL; omega)); clear ho
  clear hb7
  go_wp2_with fail
  refine (HIS.out _ hr.out hl.out).mono ?_
  rintro e w8 ⟨ay, ny, cy, rfl, ho, hb8⟩
  have tp := Lib.hid (hp.out.below hb8); clear hp; have hp := tp; clear tp
  have tk := Lib.hid (hk.out.below hb8); clear hk; have hk := tk; clear tk
  have twant := Lib.hid (hwant.out.below hb8); clear hwant; have hwant := twant; clear twant
  have tS := Lib.hid (hS.out.below hb8); clear hS; have hS := tS; clear tS
  have tZ := Lib.hid (hZ.out.below hb8); clear hZ; have hZ := tZ; clear tZ
  have tr := Lib.hid (hr.out.below hb8); clear hr; have hr := tr; clear tr
  have tl := Lib.hid (hl.out.below hb8); clear hl; have hl := tl; clear tl
  have tx := Lib.hid (hx.out.below hb8); clear hx; have hx := tx; clear tx
  have hB8 : Below w.heap.size w w8 := hB7.trans (hb8.mono hB7.size)
  have hy := Lib.hid (ho.sl (by have h1 := ho.1; have h2 := length_infP xr LL; omega)); clear ho
  clear hb8
  clear hr
  go_wp2_with fail
  refine (impl_IntervalsOf ap np cp xp _ hp.out).mono ?_
  rintro e w9 ⟨av, nv, cv, rfl, ho, hb9⟩
  have tp := Lib.hid (hp.out.below hb9); clear hp; have hp := tp; clear tp
  have tk := Lib.hid (hk.out.below hb9); clear hk; have hk := tk; clear tk
  have twant := Lib.hid (hwant.out.below hb9); clear hwant; have hwant := twant; clear twant
  have tS := Lib.hid (hS.out.below hb9); clear hS; have hS := tS; clear tS
  have tZ := Lib.hid (hZ.out.below hb9); clear hZ; have hZ := tZ; clear tZ
  have tl := Lib.hid (hl.out.below hb9); clear hl; have hl := tl; clear tl
  have tx := Lib.hid (hx.out.below hb9); clear hx; have hx := tx; clear tx
  have ty := Lib.hid (hy.out.below hb9); clear hy; have hy := ty; clear ty
  have hB9 : Below w.heap.size w w9 := hB8.trans (hb9.mono hB8.size)
  have hv := Lib.hid (ho.iisT (bound_ivsP xp)); clear ho
  clear hb9
  go_wp2_with fail
  refine (sameInts_same ak awant nk nwant ck cwant _ _ hk.out hwant.out).mono ?_
  rintro e w10 ⟨rfl, hb10⟩
  have tp := Lib.hid (hp.out.below hb10); clear hp; have hp := tp; clear tp
  have tk := Lib.hid (hk.out.below hb10); clear hk; have hk := tk; clear tk
  have twant := Lib.hid (hwant.out.below hb10); clear hwant; have hwant := twant; clear twant
  have tS := Lib.hid (hS.out.below hb10); clear hS; have hS := tS; clear tS
  have tZ := Lib.hid (hZ.out.below hb10); clear hZ; have hZ := tZ; clear tZ
  have tl := Lib.hid (hl.out.below hb10); clear hl; have hl := tl; clear tl
  have tx := Lib.hid (hx.out.below hb10); clear hx; have hx := tx; clear tx
  have ty := Lib.hid (hy.out.below hb10); clear hy; have hy := ty; clear ty
  have tv := Lib.hid (hv.out.below hb10); clear hv; have hv := tv; clear tv
  have hB10 : Below w.heap.size w w10 := hB9.trans (hb10.mono hB9.size)
  clear hb10
  clear hwant
  go_wp2_with fail
  refine (impl_IsInterval aS nS cS xS f2 t2 _ hS.out (wf_mid (by omega) (by omega)) (wf_mid (by omega) (by omega))).mono ?_
  rintro e w11 ⟨rfl, hb11⟩
  have tp := Lib.hid (hp.out.below hb11); clear hp; have hp := tp; clear tp
  have tk := Lib.hid (hk.out.below hb11); clear hk; have hk := tk; clear tk
  have tS := Lib.hid (hS.out.below hb11); clear hS; have hS := tS; clear tS
  have tZ := Lib.hid (hZ.out.below hb11); clear hZ; have hZ := tZ; clear tZ
  have tl := Lib.hid (hl.out.below hb11); clear hl; have hl := tl; clear tl
  have tx := Lib.hid (hx.out.below hb11); clear hx; have hx := tx; clear tx
  have ty := Lib.hid (hy.out.below hb11); clear hy; have hy := ty; clear ty
  have tv := Lib.hid (hv.out.below hb11); clear hv; have hv := tv; clear tv
  have hB11 : Below w.heap.size w w11 := hB10.trans (hb11.mono hB10.size)
  clear hb11
  go_wp2_with fail
  refine (spec_IsInterval aS nS cS xS f2 t2 _ hS.out (wf_mid (by omega) (by omega)) (wf_mid (by omega) (by omega))).mono ?_
  rintro e w12 ⟨rfl, hb12⟩
  have tp := Lib.hid (hp.out.below hb12); clear hp; have hp := tp; clear tp
  have tk := Lib.hid (hk.out.below hb12); clear hk; have hk := tk; clear tk
  have tS := Lib.hid (hS.out.below hb12); clear hS; have hS := tS; clear tS
  have tZ := Lib.hid (hZ.out.below hb12); clear hZ; have hZ := tZ; clear tZ
  have tl := Lib.hid (hl.out.below hb12); clear hl; have hl := tl; clear tl
  have tx := Lib.hid (hx.out.below hb12); clear hx; have hx := tx; clear tx
  have ty := Lib.hid (hy.out.below hb12); clear hy; have hy := ty; clear ty
  have tv := Lib.hid (hv.out.below hb12); clear hv; have hv := tv; clear tv
  have hB12 : Below w.heap.size w w12 := hB11.trans (hb12.mono hB11.size)
  clear hb12
  clear hS
  go_wp2_with fail
  refine (impl_IsSimple aZ nZ cZ xZ _ hZ.out).mono ?_
  rintro e w13 ⟨rfl, hb13⟩
  have tp := Lib.hid (hp.out.below hb13); clear hp; have hp := tp; clear tp
  have tk := Lib.hid (hk.out.below hb13); clear hk; have hk := tk; clear tk
  have tZ := Lib.hid (hZ.out.below hb13); clear hZ; have hZ := tZ; clear tZ
  have tl := Lib.hid (hl.out.below hb13); clear hl; have hl := tl; clear tl
  have tx := Lib.hid (hx.out.below hb13); clear hx; have hx := tx; clear tx
  have ty := Lib.hid (hy.out.below hb13); clear hy; have hy := ty; clear ty
  have tv := Lib.hid (hv.out.below hb13); clear hv; have hv := tv; clear tv
  have hB13 : Below w.heap.size w w13 := hB12.trans (hb13.mono hB12.size)
  clear hb13
  go_wp2_with fail
  refine (spec_IsSimple aZ nZ cZ xZ _ hZ.out).mono ?_
  rintro e w14 ⟨rfl, hb14⟩
  have tp := Lib.hid (hp.out.below hb14); clear hp; have hp := tp; clear tp
  have tk := Lib.hid (hk.out.below hb14); clear hk; have hk := tk; clear tk
  have tZ := Lib.hid (hZ.out.below hb14); clear hZ; have hZ := tZ; clear tZ
  have tl := Lib.hid (hl.out.below hb14); clear hl; have hl := tl; clear tl
  have tx := Lib.hid (hx.out.below hb14); clear hx; have hx := tx; clear tx
  have ty := Lib.hid (hy.out.below hb14); clear hy; have hy := ty; clear ty
  have tv := Lib.hid (hv.out.below hb14); clear hv; have hv := tv; clear tv
  have hB14 : Below w.heap.size w w14 := hB13.trans (hb14.mono hB13.size)
  clear hb14
  go_wp2_with fail
  refine (sameInts_same ax ay nx ny cx cy _ _ hx.out hy.out).mono ?_
  rintro e w15 ⟨rfl, hb15⟩
  have tp := Lib.hid (hp.out.below hb15); clear hp; have hp := tp; clear tp
  have tk := Lib.hid (hk.out.below hb15); clear hk; have hk := tk; clear tk
  have tZ := Lib.hid (hZ.out.below hb15); clear hZ; have hZ := tZ; clear tZ
  have tl := Lib.hid (hl.out.below hb15); clear hl; have hl := tl; clear tl
  have tx := Lib.hid (hx.out.below hb15); clear hx; have hx := tx; clear tx
  have ty := Lib.hid (hy.out.below hb15); clear hy; have hy := ty; clear ty
  have tv := Lib.hid (hv.out.below hb15); clear hv; have hv := tv; clear tv
  have hB15 : Below w.heap.size w w15 := hB14.trans (hb15.mono hB14.size)
  clear hb15
  clear hy
  go_wp2_with fail
  refine (spec_IntervalsOf ap np cp xp _ hp.out).mono ?_
  rintro e w16 ⟨av2, nv2, cv2, rfl, ho, hb16⟩
  have tp := Lib.hid (hp.out.below hb16); clear hp; have hp := tp; clear tp
  have tk := Lib.hid (hk.out.below hb16); clear hk; have hk := tk; clear tk
  have tZ := Lib.hid (hZ.out.below hb16); clear hZ; have hZ := tZ; clear tZ
  have tl := Lib.hid (hl.out.below hb16); clear hl; have hl := tl; clear tl
  have tx := Lib.hid (hx.out.below hb16); clear hx; have hx := tx; clear tx
  have tv := Lib.hid (hv.out.below hb16); clear hv; have hv := tv; clear tv
  have hB16 : Below w.heap.size w w16 := hB15.trans (hb16.mono hB15.size)
  have hv2 := Lib.hid (ho.iisT (bound_ivsP xp)); clear ho
  clear hb16
  go_wp2_with fail
  refine (sameLists_same av av2 nv nv2 cv cv2 _ _ hv.out hv2.out).mono ?_
  rintro e w17 ⟨rfl, hb17⟩
  have tp := Lib.hid (hp.out.below hb17); clear hp; have hp := tp; clear tp
  have tk := Lib.hid (hk.out.below hb17); clear hk; have hk := tk; clear tk
  have tZ := Lib.hid (hZ.out.below hb17); clear hZ; have hZ := tZ; clear tZ
  have tl := Lib.hid (hl.out.below hb17); clear hl; have hl := tl; clear tl
  have tx := Lib.hid (hx.out.below hb17); clear hx; have hx := tx; clear tx
  have tv := Lib.hid (hv.out.below hb17); clear hv; have hv := tv; clear tv
  have tv2 := Lib.hid (hv2.out.below hb17); clear hv2; have hv2 := tv2; clear tv2
  have hB17 : Below w.heap.size w w17 := hB16.trans (hb17.mono hB16.size)
  clear hb17
  clear hv2
  go_wp2_with fail
  refine (impl_CountIntervals ap np cp xp _ hp.out).mono ?_
  rintro e w18 ⟨rfl, hb18⟩
  have tp := Lib.hid (hp.out.below hb18); clear hp; have hp := tp; clear tp
  have tk := Lib.hid (hk.out.below hb18); clear hk; have hk := tk; clear tk
  have tZ := Lib.hid (hZ.out.below hb18); clear hZ; have hZ := tZ; clear tZ
  have tl := Lib.hid (hl.out.below hb18); clear hl; have hl := tl; clear tl
  have tx := Lib.hid (hx.out.below hb18); clear hx; have hx := tx; clear tx
  have tv := Lib.hid (hv.out.below hb18); clear hv; have hv := tv; clear tv
  have hB18 : Below w.heap.size w w18 := hB17.trans (hb18.mono hB17.size)
  clear hb18
  go_wp2_with fail
  refine (spec_CountIntervals ap np cp xp _ hp.out).mono ?_
  rintro e w19 ⟨rfl, hb19⟩
  have tp := Lib.hid (hp.out.below hb19); clear hp; have hp := tp; clear tp
  have tk := Lib.hid (hk.out.below hb19); clear hk; have hk := tk; clear tk
  have tZ := Lib.hid (hZ.out.below hb19); clear hZ; have hZ := tZ; clear tZ
  have tl := Lib.hid (hl.out.below hb19); clear hl; have hl := tl; clear tl
  have tx := Lib.hid (hx.out.below hb19); clear hx; have hx := tx; clear tx
  have tv := Lib.hid (hv.out.below hb19); clear hv; have hv := tv; clear tv
  have hB19 : Below w.heap.size w w19 := hB18.trans (hb19.mono hB18.size)
  clear hb19
  have HIV : Hid (∀ W A B, SlI W ap np cp xp → ivP xp A B = true → (Lit.int .i64 A).wf = true → (Lit.int .i64 B).wf = true → Calls Try.prog 29 #[.slice ap np cp, .int .i64 A, .int .i64 B] W (RetV W (.bool true))) := fun W A B h1 h2 h3 h4 => by have t := impl_IsInterval ap np cp xp A B W h1 h3 h4; rw [h2] at t; exact t
  have hp8 : xp.length ≤ 9 := by have := hp.out.2.1; omega
  cases b with
  | true =>
    obtain ⟨A, B, rfl, hAB, k1, k2, k3, k4, k5, k6⟩ := HKF.out rfl
    have hk2 : nk = 2 := hk.out.2.1.symm
    subst hk2
    obtain ⟨rb, ro, rfl, hy0, hy1⟩ := two_cells hk.out
    have z1 : decide (fr < A) = false := decide_eq_false (by omega)
    have z2 : decide (B < to) = false := decide_eq_false (by omega)
    have z3 : decide (to < A) = false := decide_eq_false (by omega)
    have z4 : decide (B < fr) = false := decide_eq_false (by omega)
    have hHC : ∀ W, Below w19.heap.size w19 W → Calls Try.prog 29 #[.slice ap np cp, .int .i64 A, .int .i64 B] W (RetV W (.bool true)) := fun W hb => HIV.out W A B (hp.out.below hb) hAB (wf_mid (by omega) (by omega)) (wf_mid (by omega) (by omega))
    have HHC := Lib.hid hHC
    have HK := Lib.hid hk.out
    clear hHC hAB hk
    go_wp2
    go_region_held3 (fun w' => w'.cell? ⟨rb, ro, none⟩ = some (.int .i64 A) ∧ w'.cell? ⟨rb, ro + 1, none⟩ = some (.int .i64 B))
      (first | go_keep | (exact ⟨keepS hy0 hb0, keepS hy1 hb0⟩))
      (first | (go_at_call 29; refine (HHC.out _ (Below.refl _ _).drew).mono ?_; rintro e w0 ⟨rfl, hb0'⟩; have hb0 : Below w19.heap.size w19 w0 := (Below.refl _ w19).drew.trans hb0'))
    all_goals
      have t := Lib.hid (hp.out.below hb0); clear hp; have hp := t; clear t
      have t := Lib.hid (hZ.out.below hb0); clear hZ; have hZ := t; clear t
      have t := Lib.hid (hl.out.below hb0); clear hl; have hl := t; clear t
      have t := Lib.hid (hx.out.below hb0); clear hx; have hx := t; clear t
      have t := Lib.hid (hv.out.below hb0); clear hv; have hv := t; clear t
      have hBz : Below w.heap.size w w0 := hB19.trans (hb0.mono hB19.size)
      clear hy0 hy1 HK HHC hb0 hb0'
      have hlv : (ivsP xp).length = nv := hv.out.2.1
      have hnv : nv ≤ 64 := by have := length_ivsP xp; omega
      clear hlv
      go_wp2
      go_loopw [21] (fun kv wr => ∃ k : Nat, k ≤ nv ∧ kv = .int .i64 (k : Int) ∧ Hid (Below w0.heap.size w0 wr)) (fun kv _ => nv - (intOf kv).toNat)
      case atStart => exact ⟨0, Nat.zero_le _, rfl, by first | exact Below.refl _ _ | exact (Below.refl _ _).drew | exact ((Quiet.refl _).drewN _).below _⟩
      case round =>
        obtain ⟨k, hk, rfl, HBr⟩ := hrel
        by_cases hlt : k < nv
        · obtain ⟨ab, ao, ra, rn, rc, r, hab, hcell, hrow, HX⟩ := (hv.out.below HBr.out).at hlt
          obtain ⟨A, B, rfl, hAB, hA1, hA8, hB1, hB8⟩ := ivs_ok xp r (List.mem_of_getElem? HX.out)
          obtain rfl : rn = 2 := hrow.2.1.symm
          obtain ⟨rb, ro, rfl, hy0, hy1⟩ := two_cells hrow
          have HC := fun W (hb : Below wr.heap.size wr W) => HIV.out W A B ((hp.out.below HBr.out).below hb) hAB (wf_mid (by omega) (by omega)) (wf_mid (by omega) (by omega))
          have HCC := Lib.hid HC
          clear HC hrow HX hAB
          subst hab
          go_wp2
          go_region_held3 (fun w' => w'.cell? ⟨ab, ao + k, none⟩ = some (.slice (some ⟨rb, ro, none⟩) 2 rc) ∧ w'.cell? ⟨rb, ro, none⟩ = some (.int .i64 A) ∧ w'.cell? ⟨rb, ro + 1, none⟩ = some (.int .i64 B))
            (first | go_keep | (exact ⟨keepS hcell hb9, keepS hy0 hb9, keepS hy1 hb9⟩))
            (first | (go_at_call 29; refine (HCC.out _ (Below.refl _ _).drew).mono ?_; rintro e w9 ⟨rfl, hb9'⟩; have hb9 : Below wr.heap.size wr w9 := (Below.refl _ wr).drew.trans hb9'))
          all_goals
            have hbn : Hid (Below w0.heap.size w0 w9) := HBr.out.trans (hb9.mono HBr.out.size)
            clear hb9 hb9' hy0 hy1 hcell
            go_wp2
            go_roundw
            case rel => exact ⟨k + 1, by omega, by go_num, hbn⟩
            case measure => simp [intOf]; omega
        · obtain rfl : k = nv := by omega
          have t := Lib.hid (hl.out.below HBr.out); clear hl; have hl := t; clear t
          have t := Lib.hid (hx.out.below HBr.out); clear hx; have hx := t; clear t
          have t := Lib.hid (hZ.out.below HBr.out); clear hZ; have hZ := t; clear t
          have hBE : Below w.heap.size w wr := hBz.trans (HBr.out.mono hBz.size)
          clear hv HBr
          cases o with
          | true =>
            have HBK := Lib.hid (HOF.out rfl)
            obtain ⟨wE, rfl⟩ : ∃ wE : World, wE = wr := ⟨_, rfl⟩
            have hll : LL.length = nl := hl.out.2.1
            have hlb := HLB.out
            go_wp2
            go_loopw [22, 23] (fun av kv wr => ∃ j : Nat, j ≤ nl ∧ kv = .int .i64 (j : Int) ∧ av = .int .i64 ((totL (LL.take j) : Int) + 1) ∧ Hid (Below wE.heap.size wE wr)) (fun _ kv _ => nl - (intOf kv).toNat)
            case atStart => exact ⟨0, Nat.zero_le _, rfl, by simp [totL], Below.refl _ _⟩
            case round =>
              obtain ⟨j, hj, rfl, rfl, HBj⟩ := hrel
              by_cases hlj : j < nl
              · have hl2 := hl.out.below HBj.out
                obtain ⟨ab, ao, ra, rn, rc, r, hab, hcell, hrow, HX⟩ := hl2.at hlj
                have hrl : r.length = rn := hrow.2.1
                have hiv := HBK.out j r HX.out
                have hsn : totL (LL.take (j + 1)) = totL (LL.take j) + rn := by rw [totL_snoc HX.out, hrl]
                have htk := totL_take_le LL (j + 1)
                rw [hrl] at hiv
                have HC : Hid (∀ z : Int, z = (totL (LL.take j) : Int) + (rn : Int) → Calls Try.prog 29 #[.slice ax nx cx, .int .i64 ((totL (LL.take j) : Int) + 1), .int .i64 z] wr (RetV wr (.bool true))) := fun z hz => by subst hz; have t := impl_IsInterval ax nx cx (infP xr LL) ((totL (LL.take j) : Int) + 1) ((totL (LL.take j) : Int) + (rn : Int)) wr (hx.out.below HBj.out) (wf_mid (by omega) (by omega)) (wf_mid (by omega) (by omega)); rw [hiv] at t; exact t
                have hrn : rn ≤ 1048576 := by omega
                have HSN := Lib.hid hsn
                have htj : totL (LL.take j) ≤ 1048576 := by omega
                clear hiv hrow HX hsn htk
                subst hab
                go_wp2_with fail
                refine (HC.out _ (by omega)).mono ?_
                rintro e w9 ⟨rfl, hb9⟩
                obtain ⟨ab2, ao2, ra2, rn2, rc2, r2, hab2, hcell2, hrow2, HX2⟩ := (hl2.below hb9).at hlj
                have hcc : w9.cell? ⟨ab, ao + j, none⟩ = some (.slice ra rn rc) := (hb9.cell (p := ⟨ab, ao + j, none⟩) (World.block_lt_of_cell? wr _ hcell)).trans hcell
                have hbn : Hid (Below wE.heap.size wE w9) := HBj.out.trans (hb9.mono HBj.out.size)
                clear hb9 hl2 hcell2 hrow2 HX2 hab2 hcell HC
                go_wp2
                go_roundw
                case rel => exact ⟨j + 1, by omega, by go_num, by rw [HSN.out]; go_num, hbn⟩
                case measure => simp [intOf]; omega
              · have hqq := Lib.hid (hZ.out.below HBj.out)
                have hBF : Below w.heap.size w wr := hBE.trans (HBj.out.mono hBE.size)
                clear hZ hl hx
                have hcnt := sim_cnt xZ
                have hcb := cnt_bd xZ
                have hqn : xZ.length = nZ := hqq.out.2.1
                have hS1 := impl_IsSimple aZ nZ cZ xZ wr hqq.out
                obtain ⟨sv, hsv⟩ : ∃ sv, sv = simP xZ := ⟨_, rfl⟩
                rw [← hsv] at hS1 hcnt
                rw [hqn] at hcnt
                obtain ⟨cv, hcv⟩ : ∃ cv, cv = cntIv xZ := ⟨_, rfl⟩
                have HCN : Hid (∀ W, SlI W aZ nZ cZ xZ → Calls Try.prog 35 #[.slice aZ nZ cZ] W (RetV W (.int .i64 cv))) := fun W h => by rw [hcv]; exact impl_CountIntervals aZ nZ cZ xZ W h
                rw [← hcv] at hcnt hcb
                have HCT := Lib.hid hcnt
                clear hsv hcv hqn hcnt
                go_wp2_with fail
                refine hS1.mono ?_
                rintro e wS ⟨rfl, hbS⟩
                have hqS := hqq.out.below hbS
                have hBS : Below w.heap.size w wS := hBF.trans (hbS.mono hBF.size)
                have HN := Lib.hid (HCN.out wS hqS)
                clear hS1 hqS hbS hqq HCN
                cases sv with
                | false =>
                  go_wp2
                  go_ret
                  exact ⟨rfl, hBS⟩
                | true =>
                  by_cases hc1 : cv = (nZ : Int) + 1
                  · subst hc1
                    go_wp2_with fail
                    refine HN.out.mono ?_
                    rintro e wT ⟨rfl, hbT⟩
                    have hBT := hBS.trans (hbT.mono hBS.size)
                    go_wp2
                    go_ret
                    exact ⟨by first | rfl | exact ret_bool (by simp), hBT⟩
                  · have hnZ : nZ = 1 := by rcases HCT.out rfl with h1 | h1; exact absurd h1 hc1; exact h1
                    subst hnZ
                    have hne : (cv == ((1 : Nat) : Int) + 1) = false := by rw [beq_eq_false_iff_ne]; exact hc1
                    have hne2 : (cv == 2) = false := by rw [beq_eq_false_iff_ne]; intro e; exact hc1 (by omega)
                    go_wp2_with fail
                    refine HN.out.mono ?_
                    rintro e wT ⟨rfl, hbT⟩
                    have hBT := hBS.trans (hbT.mono hBS.size)
                    go_wp2
                    go_ret
                    exact ⟨by first | rfl | exact ret_bool (by simp), hBT⟩
          | false =>
            have hqq := hZ
            clear hZ hl hx
            have hcnt := sim_cnt xZ
            have hcb := cnt_bd xZ
            have hqn : xZ.length = nZ := hqq.out.2.1
            have hS1 := impl_IsSimple aZ nZ cZ xZ wr hqq.out
            obtain ⟨sv, hsv⟩ : ∃ sv, sv = simP xZ := ⟨_, rfl⟩
            rw [← hsv] at hS1 hcnt
            rw [hqn] at hcnt
            obtain ⟨cv, hcv⟩ : ∃ cv, cv = cntIv xZ := ⟨_, rfl⟩
            have HCN : Hid (∀ W, SlI W aZ nZ cZ xZ → Calls Try.prog 35 #[.slice aZ nZ cZ] W (RetV W (.int .i64 cv))) := fun W h => by rw [hcv]; exact impl_CountIntervals aZ nZ cZ xZ W h
            rw [← hcv] at hcnt hcb
            have HCT := Lib.hid hcnt
            clear hsv hcv hqn hcnt
            go_wp2_with fail
            refine hS1.mono ?_
            rintro e wS ⟨rfl, hbS⟩
            have hqS := hqq.out.below hbS
            have hBS : Below w.heap.size w wS := hBE.trans (hbS.mono hBE.size)
            have HN := Lib.hid (HCN.out wS hqS)
            clear hS1 hqS hbS hqq HCN
            cases sv with
            | false =>
              go_wp2
              go_ret
              exact ⟨rfl, hBS⟩
            | true =>
              by_cases hc1 : cv = (nZ : Int) + 1
              · subst hc1
                go_wp2_with fail
                refine HN.out.mono ?_
                rintro e wT ⟨rfl, hbT⟩
                have hBT := hBS.trans (hbT.mono hBS.size)
                go_wp2
                go_ret
                exact ⟨by first | rfl | exact ret_bool (by simp), hBT⟩
              · have hnZ : nZ = 1 := by rcases HCT.out rfl with h1 | h1; exact absurd h1 hc1; exact h1
                subst hnZ
                have hne : (cv == ((1 : Nat) : Int) + 1) = false := by rw [beq_eq_false_iff_ne]; exact hc1
                have hne2 : (cv == 2) = false := by rw [beq_eq_false_iff_ne]; intro e; exact hc1 (by omega)
                go_wp2_with fail
                refine HN.out.mono ?_
                rintro e wT ⟨rfl, hbT⟩
                have hBT := hBS.trans (hbT.mono hBS.size)
                go_wp2
                go_ret
                exact ⟨by first | rfl | exact ret_bool (by simp), hBT⟩
  | false =>
    clear hk
    have hlv : (ivsP xp).length = nv := hv.out.2.1
    have hnv : nv ≤ 64 := by have := length_ivsP xp; omega
    clear hlv
    go_wp2
    first | go_quiet (fail) | go_region_law (fail)
    go_wp2
    go_loopw [21] (fun kv wr => ∃ k : Nat, k ≤ nv ∧ kv = .int .i64 (k : Int) ∧ Hid (Below w19.heap.size w19 wr)) (fun kv _ => nv - (intOf kv).toNat)
    case atStart => exact ⟨0, Nat.zero_le _, rfl, by first | exact Below.refl _ _ | exact (Below.refl _ _).drew | exact ((Quiet.refl _).drewN _).below _⟩
    case round =>
      obtain ⟨k, hk, rfl, HBr⟩ := hrel
      by_cases hlt : k < nv
      · obtain ⟨ab, ao, ra, rn, rc, r, hab, hcell, hrow, HX⟩ := (hv.out.below HBr.out).at hlt
        obtain ⟨A, B, rfl, hAB, hA1, hA8, hB1, hB8⟩ := ivs_ok xp r (List.mem_of_getElem? HX.out)
        obtain rfl : rn = 2 := hrow.2.1.symm
        obtain ⟨rb, ro, rfl, hy0, hy1⟩ := two_cells hrow
        have HC := fun W (hb : Below wr.heap.size wr W) => HIV.out W A B ((hp.out.below HBr.out).below hb) hAB (wf_mid (by omega) (by omega)) (wf_mid (by omega) (by omega))
        have HCC := Lib.hid HC
        clear HC hrow HX hAB
        subst hab
        go_wp2
        go_region_held3 (fun w' => w'.cell? ⟨ab, ao + k, none⟩ = some (.slice (some ⟨rb, ro, none⟩) 2 rc) ∧ w'.cell? ⟨rb, ro, none⟩ = some (.int .i64 A) ∧ w'.cell? ⟨rb, ro + 1, none⟩ = some (.int .i64 B))
          (first | go_keep | (exact ⟨keepS hcell hb9, keepS hy0 hb9, keepS hy1 hb9⟩))
          (first | (go_at_call 29; refine (HCC.out _ (Below.refl _ _).drew).mono ?_; rintro e w9 ⟨rfl, hb9'⟩; have hb9 : Below wr.heap.size wr w9 := (Below.refl _ wr).drew.trans hb9'))
        all_goals
          have hbn : Hid (Below w19.heap.size w19 w9) := HBr.out.trans (hb9.mono HBr.out.size)
          clear hb9 hb9' hy0 hy1 hcell
          go_wp2
          go_roundw
          case rel => exact ⟨k + 1, by omega, by go_num, hbn⟩
          case measure => simp [intOf]; omega
      · obtain rfl : k = nv := by omega
        have t := Lib.hid (hl.out.below HBr.out); clear hl; have hl := t; clear t
        have t := Lib.hid (hx.out.below HBr.out); clear hx; have hx := t; clear t
        have t := Lib.hid (hZ.out.below HBr.out); clear hZ; have hZ := t; clear t
        have hBE : Below w.heap.size w wr := hB19.trans (HBr.out.mono hB19.size)
        clear hv HBr
        cases o with
        | true =>
          have HBK := Lib.hid (HOF.out rfl)
          obtain ⟨wE, rfl⟩ : ∃ wE : World, wE = wr := ⟨_, rfl⟩
          have hll : LL.length = nl := hl.out.2.1
          have hlb := HLB.out
          go_wp2
          go_loopw [22, 23] (fun av kv wr => ∃ j : Nat, j ≤ nl ∧ kv = .int .i64 (j : Int) ∧ av = .int .i64 ((totL (LL.take j) : Int) + 1) ∧ Hid (Below wE.heap.size wE wr)) (fun _ kv _ => nl - (intOf kv).toNat)
          case atStart => exact ⟨0, Nat.zero_le _, rfl, by simp [totL], Below.refl _ _⟩
          case round =>
            obtain ⟨j, hj, rfl, rfl, HBj⟩ := hrel
            by_cases hlj : j < nl
            · have hl2 := hl.out.below HBj.out
              obtain ⟨ab, ao, ra, rn, rc, r, hab, hcell, hrow, HX⟩ := hl2.at hlj
              have hrl : r.length = rn := hrow.2.1
              have hiv := HBK.out j r HX.out
              have hsn : totL (LL.take (j + 1)) = totL (LL.take j) + rn := by rw [totL_snoc HX.out, hrl]
              have htk := totL_take_le LL (j + 1)
              rw [hrl] at hiv
              have HC : Hid (∀ z : Int, z = (totL (LL.take j) : Int) + (rn : Int) → Calls Try.prog 29 #[.slice ax nx cx, .int .i64 ((totL (LL.take j) : Int) + 1), .int .i64 z] wr (RetV wr (.bool true))) := fun z hz => by subst hz; have t := impl_IsInterval ax nx cx (infP xr LL) ((totL (LL.take j) : Int) + 1) ((totL (LL.take j) : Int) + (rn : Int)) wr (hx.out.below HBj.out) (wf_mid (by omega) (by omega)) (wf_mid (by omega) (by omega)); rw [hiv] at t; exact t
              have hrn : rn ≤ 1048576 := by omega
              have HSN := Lib.hid hsn
              have htj : totL (LL.take j) ≤ 1048576 := by omega
              clear hiv hrow HX hsn htk
              subst hab
              go_wp2_with fail
              refine (HC.out _ (by omega)).mono ?_
              rintro e w9 ⟨rfl, hb9⟩
              obtain ⟨ab2, ao2, ra2, rn2, rc2, r2, hab2, hcell2, hrow2, HX2⟩ := (hl2.below hb9).at hlj
              have hcc : w9.cell? ⟨ab, ao + j, none⟩ = some (.slice ra rn rc) := (hb9.cell (p := ⟨ab, ao + j, none⟩) (World.block_lt_of_cell? wr _ hcell)).trans hcell
              have hbn : Hid (Below wE.heap.size wE w9) := HBj.out.trans (hb9.mono HBj.out.size)
              clear hb9 hl2 hcell2 hrow2 HX2 hab2 hcell HC
              go_wp2
              go_roundw
              case rel => exact ⟨j + 1, by omega, by go_num, by rw [HSN.out]; go_num, hbn⟩
              case measure => simp [intOf]; omega
            · have hqq := Lib.hid (hZ.out.below HBj.out)
              have hBF : Below w.heap.size w wr := hBE.trans (HBj.out.mono hBE.size)
              clear hZ hl hx
              have hcnt := sim_cnt xZ
              have hcb := cnt_bd xZ
              have hqn : xZ.length = nZ := hqq.out.2.1
              have hS1 := impl_IsSimple aZ nZ cZ xZ wr hqq.out
              obtain ⟨sv, hsv⟩ : ∃ sv, sv = simP xZ := ⟨_, rfl⟩
              rw [← hsv] at hS1 hcnt
              rw [hqn] at hcnt
              obtain ⟨cv, hcv⟩ : ∃ cv, cv = cntIv xZ := ⟨_, rfl⟩
              have HCN : Hid (∀ W, SlI W aZ nZ cZ xZ → Calls Try.prog 35 #[.slice aZ nZ cZ] W (RetV W (.int .i64 cv))) := fun W h => by rw [hcv]; exact impl_CountIntervals aZ nZ cZ xZ W h
              rw [← hcv] at hcnt hcb
              have HCT := Lib.hid hcnt
              clear hsv hcv hqn hcnt
              go_wp2_with fail
              refine hS1.mono ?_
              rintro e wS ⟨rfl, hbS⟩
              have hqS := hqq.out.below hbS
              have hBS : Below w.heap.size w wS := hBF.trans (hbS.mono hBF.size)
              have HN := Lib.hid (HCN.out wS hqS)
              clear hS1 hqS hbS hqq HCN
              cases sv with
              | false =>
                go_wp2
                go_ret
                exact ⟨rfl, hBS⟩
              | true =>
                by_cases hc1 : cv = (nZ : Int) + 1
                · subst hc1
                  go_wp2_with fail
                  refine HN.out.mono ?_
                  rintro e wT ⟨rfl, hbT⟩
                  have hBT := hBS.trans (hbT.mono hBS.size)
                  go_wp2
                  go_ret
                  exact ⟨by first | rfl | exact ret_bool (by simp), hBT⟩
                · have hnZ : nZ = 1 := by rcases HCT.out rfl with h1 | h1; exact absurd h1 hc1; exact h1
                  subst hnZ
                  have hne : (cv == ((1 : Nat) : Int) + 1) = false := by rw [beq_eq_false_iff_ne]; exact hc1
                  have hne2 : (cv == 2) = false := by rw [beq_eq_false_iff_ne]; intro e; exact hc1 (by omega)
                  go_wp2_with fail
                  refine HN.out.mono ?_
                  rintro e wT ⟨rfl, hbT⟩
                  have hBT := hBS.trans (hbT.mono hBS.size)
                  go_wp2
                  go_ret
                  exact ⟨by first | rfl | exact ret_bool (by simp), hBT⟩
        | false =>
          have hqq := hZ
          clear hZ hl hx
          have hcnt := sim_cnt xZ
          have hcb := cnt_bd xZ
          have hqn : xZ.length = nZ := hqq.out.2.1
          have hS1 := impl_IsSimple aZ nZ cZ xZ wr hqq.out
          obtain ⟨sv, hsv⟩ : ∃ sv, sv = simP xZ := ⟨_, rfl⟩
          rw [← hsv] at hS1 hcnt
          rw [hqn] at hcnt
          obtain ⟨cv, hcv⟩ : ∃ cv, cv = cntIv xZ := ⟨_, rfl⟩
          have HCN : Hid (∀ W, SlI W aZ nZ cZ xZ → Calls Try.prog 35 #[.slice aZ nZ cZ] W (RetV W (.int .i64 cv))) := fun W h => by rw [hcv]; exact impl_CountIntervals aZ nZ cZ xZ W h
          rw [← hcv] at hcnt hcb
          have HCT := Lib.hid hcnt
          clear hsv hcv hqn hcnt
          go_wp2_with fail
          refine hS1.mono ?_
          rintro e wS ⟨rfl, hbS⟩
          have hqS := hqq.out.below hbS
          have hBS : Below w.heap.size w wS := hBE.trans (hbS.mono hBE.size)
          have HN := Lib.hid (HCN.out wS hqS)
          clear hS1 hqS hbS hqq HCN
          cases sv with
          | false =>
            go_wp2
            go_ret
            exact ⟨rfl, hBS⟩
          | true =>
            by_cases hc1 : cv = (nZ : Int) + 1
            · subst hc1
              go_wp2_with fail
              refine HN.out.mono ?_
              rintro e wT ⟨rfl, hbT⟩
              have hBT := hBS.trans (hbT.mono hBS.size)
              go_wp2
              go_ret
              exact ⟨by first | rfl | exact ret_bool (by simp), hBT⟩
            · have hnZ : nZ = 1 := by rcases HCT.out rfl with h1 | h1; exact absurd h1 hc1; exact h1
              subst hnZ
              have hne : (cv == ((1 : Nat) : Int) + 1) = false := by rw [beq_eq_false_iff_ne]; exact hc1
              have hne2 : (cv == 2) = false := by rw [beq_eq_false_iff_ne]; intro e; exact hc1 (by omega)
              go_wp2_with fail
              refine HN.out.mono ?_
              rintro e wT ⟨rfl, hbT⟩
              have hBT := hBS.trans (hbT.mono hBS.size)
              go_wp2
              go_ret
              exact ⟨by first | rfl | exact ret_bool (by simp), hBT⟩
end Go.Proofs.Ytmojniiimondfaa
