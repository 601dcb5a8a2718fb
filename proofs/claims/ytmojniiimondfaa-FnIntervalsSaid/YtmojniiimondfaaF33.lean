/- JoinParts: the walks of the program's and the reference's functions. No condition but on the sizes. -/
import Derived.Test.YtmojniiimondfaaF16
import Derived.Test.YtmojniiimondfaaF23
namespace Go.Proofs.Ytmojniiimondfaa
open Go.RowKit

/-- The first k parts joined. -/
def jn (sk : Bool) (xss : List (List Int)) : Nat → List Int
  | 0 => []
  | k + 1 => joinL sk (jn sk xss k) (xss.getD k [])
def JOk (xss : List (List Int)) (k : Nat) : Prop := (∀ r ∈ xss.take k, Perm8 r) ∧ totL (xss.take k) ≤ 8
theorem jn_succ {sk : Bool} {xss : List (List Int)} {k : Nat} {r : List Int} (h : xss[k]? = some r) : jn sk xss (k + 1) = joinL sk (jn sk xss k) r := by
  simp [jn, h]
theorem length_jn (sk : Bool) (xss : List (List Int)) (k : Nat) (hk : k ≤ xss.length) : (jn sk xss k).length = totL (xss.take k) := by
  induction k with
  | zero => simp [jn, totL]
  | succ k ih =>
    have h : xss[k]? = some _ := List.getElem?_eq_getElem (by omega)
    rw [jn_succ h, length_joinL, ih (by omega), totL_snoc h]
theorem nodup_raise {xs : List Int} {d : Int} (h : xs.Nodup) : (raise xs d).Nodup := nodup_map_of (fun x _ y _ e => by omega) h
theorem perm_joinL {sk : Bool} {xs ys : List Int} (hx : IsPermL xs) (hy : IsPermL ys) : IsPermL (joinL sk xs ys) := by
  have rr : ∀ (zs : List Int) (d : Int), IsPermL zs → ∀ v ∈ raise zs d, d + 1 ≤ v ∧ v ≤ d + (zs.length : Int) := by
    intro zs d hz v hv
    obtain ⟨u, hu, rfl⟩ := List.mem_map.1 hv
    have := hz.1 u hu
    omega
  refine ⟨fun v hv => ?_, ?_⟩
  · rw [length_joinL]
    unfold joinL at hv
    split at hv
    · rcases List.mem_append.1 hv with h | h
      · have := rr xs _ hx v h; omega
      · have := hy.1 v h; omega
    · rcases List.mem_append.1 hv with h | h
      · have := hx.1 v h; omega
      · have := rr ys _ hy v h; omega
  · unfold joinL
    split
    · refine List.nodup_append.2 ⟨nodup_raise hx.2, hy.2, fun a ha b hb e => ?_⟩
      have h1 := rr xs _ hx a ha
      have h2 := hy.1 b hb
      omega
    · refine List.nodup_append.2 ⟨hx.2, nodup_raise hy.2, fun a ha b hb e => ?_⟩
      have h1 := hx.1 a ha
      have h2 := rr ys _ hy b hb
      omega
theorem perm_jn {sk : Bool} {xss : List (List Int)} {k : Nat} (hk : k ≤ xss.length) (h : ∀ r ∈ xss.take k, Perm8 r) : IsPermL (jn sk xss k) := by
  induction k with
  | zero => exact ⟨by simp [jn], by simp [jn]⟩
  | succ k ih =>
    have hx : xss[k]? = some _ := List.getElem?_eq_getElem (by omega)
    rw [jn_succ hx]
    refine perm_joinL (ih (by omega) fun r hr => h r ?_) (h _ ?_).2
    · rw [take_snoc hx]; exact List.mem_append_left _ hr
    · rw [take_snoc hx]; exact List.mem_append_right _ (by simp)
theorem JOk.mono {xss : List (List Int)} {j k : Nat} (hjk : j ≤ k) (h : JOk xss k) : JOk xss j := by
  have e : xss.take j = (xss.take k).take j := by rw [List.take_take, Nat.min_eq_left hjk]
  refine ⟨fun r hr => h.1 r ?_, ?_⟩
  · rw [e] at hr; exact List.mem_of_mem_take hr
  · rw [e]; exact Nat.le_trans (totL_take_le _ _) h.2
instance (xss : List (List Int)) (k : Nat) : Decidable (JOk xss k) := by unfold JOk; infer_instance
def joinP (sk : Bool) (xss : List (List Int)) : List Int := if JOk xss xss.length then jn sk xss xss.length else []
theorem length_joinP (sk : Bool) (xss : List (List Int)) : (joinP sk xss).length ≤ 8 := by
  unfold joinP; split
  · rename_i h; rw [length_jn _ _ _ (Nat.le_refl _)]; exact h.2
  · simp

set_option maxHeartbeats 1600000 in
theorem spec_JoinParts (a : Option Addr) (n c : Nat) (xss : List (List Int)) (sk : Bool) (w : World) (h : IIs w a n c xss) :
    Calls Try.prog 47 #[.slice a n c, .bool sk] w (RetIB w (joinP sk xss) (decide (JOk xss xss.length))) := by
  have HN : Hid (xss.length = n) := h.2.1
  have hnb := h.2.2.1
  obtain ⟨R, hR⟩ : ∃ R, R = joinP sk xss := ⟨_, rfl⟩
  obtain ⟨D, hD⟩ : ∃ D, D = decide (JOk xss xss.length) := ⟨_, rfl⟩
  rw [← hR, ← hD]
  have HG : Hid (JOk xss n → R = jn sk xss n ∧ D = true) := fun hj => by rw [hR, hD]; unfold joinP; rw [HN.out]; exact ⟨if_pos hj, decide_eq_true hj⟩
  have HB : Hid (¬ JOk xss n → R = [] ∧ D = false) := fun hj => by rw [hR, hD]; unfold joinP; rw [HN.out]; exact ⟨if_neg hj, decide_eq_false hj⟩
  clear hR hD
  go_enter Try.func47, Try.ntmps47
  go_wp2
  go_loopw [6, 7] (fun v i wr => ∃ (k kk c1 : Nat) (a1 : Option Addr), k ≤ n ∧ kk ≤ 8 ∧ i = .int .i64 k ∧ v = .slice a1 kk c1 ∧ Hid (JOk xss k) ∧ OwnI wr w.heap.size a1 kk c1 (jn sk xss k) ∧ Below w.heap.size w wr) (fun _ i _ => n - (intOf i).toNat)
  case atStart => exact ⟨0, 0, 0, _, Nat.zero_le _, by omega, rfl, rfl, ⟨by simp, by simp [totL]⟩, OwnI.lit0 w, below_alloc _ _⟩
  case round =>
    obtain ⟨k, kk, c1, a1, hk, hkk, rfl, rfl, HJ, ho, hb⟩ := hrel
    by_cases hlt : k < n
    · obtain ⟨ab, ao, ra, rn, rc, xs, rfl, hx, hr, HX⟩ := (h.below hb).at hlt
      have hF := l4Fit_any a1 kk c1 (jn sk xss k) ra rn rc xs wr (ho.sl (by omega)) hr
      have HP : Hid (Perm8 (jn sk xss k)) := ⟨by rw [ho.1]; exact hkk, perm_jn (by rw [HN.out]; omega) HJ.out.1⟩
      have HLn : Hid ((jn sk xss k).length = kk ∧ xs.length = rn) := ⟨ho.1, hr.2.1⟩
      have hszb := hb.size
      have HT : Hid (totL (xss.take k) = kk) := by show _ = _; rw [← length_jn sk xss k (by rw [HN.out]; omega), HLn.out.1]
      by_cases hf : SumOk (jn sk xss k) xs
      · have HF : Hid (Perm8 xs) := hf.2.1
        have hrn : kk + rn ≤ 8 := by have h1 := hf.2.2; have h2 := HLn.out; omega
        rw [decide_eq_true hf] at hF
        have HJ' : Hid (JOk xss (k + 1)) := by
          refine ⟨fun r hr' => ?_, ?_⟩
          · rw [take_snoc HX.out] at hr'
            rcases List.mem_append.1 hr' with h1 | h1
            · exact HJ.out.1 r h1
            · simp at h1; rw [h1]; exact HF.out
          · rw [totL_snoc HX.out, HT.out, HLn.out.2]; exact hrn
        have HE : Hid (jn sk xss (k + 1) = joinL sk (jn sk xss k) xs) := jn_succ HX.out
        clear hf
        go_wp2_with fail
        refine hF.mono ?_
        rintro e w1 ⟨rfl, hb1⟩
        have hx1 := (hb1.cell (p := ⟨ab, ao + k, none⟩) (World.block_lt_of_cell? wr _ hx)).trans hx
        have hJ := l4Join_any a1 kk c1 (jn sk xss k) ra rn rc xs sk w1 ((ho.below hb1).sl (by omega)) (hr.below hb1) HP.out.sm HF.out.sm (by omega) (by omega)
        have hbb := hb.trans (hb1.mono hszb)
        clear hF ho hr
        go_wp2_with fail
        refine hJ.mono ?_
        rintro e w2 ⟨a2, n2, c2, rfl, ho2, hb2⟩
        have hn2 : n2 ≤ 8 := by have h1 := ho2.1; have h2 := HLn.out; rw [length_joinL] at h1; omega
        have ho2' : OwnI w2 w.heap.size a2 n2 c2 (jn sk xss (k + 1)) := by rw [HE.out]; exact ho2.mono hbb.size
        have hbb2 := hbb.trans (hb2.mono hbb.size)
        clear hJ ho2
        go_wp2
        go_roundw
        case rel => exact ⟨k + 1, n2, c2, a2, by omega, hn2, by go_num, rfl, HJ', ho2', hbb2⟩
        case measure => simp [intOf]; omega
      · rw [decide_eq_false hf] at hF
        have HNJ : Hid (¬ JOk xss n) := fun hj => hf (by
          have h1 := JOk.mono (j := k + 1) (by omega) hj
          refine ⟨HP.out, h1.1 xs (by rw [take_snoc HX.out]; simp), ?_⟩
          have h2 := h1.2
          rw [totL_snoc HX.out, HT.out] at h2
          rw [HLn.out.1]; exact h2)
        clear hf
        obtain ⟨e1, e2⟩ := HB.out HNJ.out
        subst e1 e2
        go_wp2_with fail
        refine hF.mono ?_
        rintro e w1 ⟨rfl, hb1⟩
        have hbb := hb.trans (hb1.mono hszb)
        go_wp2
        go_ret2
        exact ⟨_, _, _, rfl, (OwnI.lit0 w1).mono hbb.size, hbb.alloc hbb.size _⟩
    · have hkn : k = n := by omega
      subst hkn
      obtain ⟨e1, e2⟩ := HG.out HJ.out
      subst e1 e2
      go_wp2
      go_ret2
      exact ⟨_, _, _, rfl, ho, hb⟩

set_option maxHeartbeats 1600000 in
theorem impl_JoinParts (a : Option Addr) (n c : Nat) (xss : List (List Int)) (sk : Bool) (w : World) (h : IIs w a n c xss) :
    Calls Try.prog 46 #[.slice a n c, .bool sk] w (RetIB w (joinP sk xss) (decide (JOk xss xss.length))) := by
  have HN : Hid (xss.length = n) := h.2.1
  have hnb := h.2.2.1
  obtain ⟨R, hR⟩ : ∃ R, R = joinP sk xss := ⟨_, rfl⟩
  obtain ⟨D, hD⟩ : ∃ D, D = decide (JOk xss xss.length) := ⟨_, rfl⟩
  rw [← hR, ← hD]
  have HG : Hid (JOk xss n → R = jn sk xss n ∧ D = true) := fun hj => by rw [hR, hD]; unfold joinP; rw [HN.out]; exact ⟨if_pos hj, decide_eq_true hj⟩
  have HB : Hid (¬ JOk xss n → R = [] ∧ D = false) := fun hj => by rw [hR, hD]; unfold joinP; rw [HN.out]; exact ⟨if_neg hj, decide_eq_false hj⟩
  clear hR hD
  go_enter Try.func46, Try.ntmps46
  go_wp2
  go_loopw [8, 14] (fun _ i wr => ∃ k : Nat, k ≤ n ∧ i = .int .i64 k ∧ Hid (∀ r ∈ xss.take k, Perm8 r) ∧ Hid (OwnI wr w.heap.size (some ⟨w.heap.size, 0, none⟩) 0 0 []) ∧ Below w.heap.size w wr) (fun _ i _ => n - (intOf i).toNat)
  case atStart => exact ⟨0, Nat.zero_le _, rfl, by show ∀ r ∈ _, _; simp, OwnI.lit0 w, below_alloc _ _⟩
  case round =>
    obtain ⟨k, hk, rfl, HA, HO, hb⟩ := hrel
    by_cases hlt : k < n
    · obtain ⟨ab, ao, ra, rn, rc, xs, rfl, hx, hr, HX⟩ := (h.below hb).at hlt
      have hI := impl_IsPerm ra rn rc xs wr hr
      have hszb := hb.size
      clear hr
      by_cases hp : Perm8 xs
      · rw [decide_eq_true hp] at hI
        have HA' : Hid (∀ r ∈ xss.take (k + 1), Perm8 r) := by
          show ∀ r ∈ _, _
          intro r hr'
          rw [take_snoc HX.out] at hr'
          rcases List.mem_append.1 hr' with h1 | h1
          · exact HA.out r h1
          · simp at h1; rw [h1]; exact hp
        clear hp
        go_wp2_with fail
        refine hI.mono ?_
        rintro e w1 ⟨rfl, hb1⟩
        have HO1 : Hid (OwnI w1 w.heap.size (some ⟨w.heap.size, 0, none⟩) 0 0 []) := HO.out.below hb1
        have hbb := hb.trans (hb1.mono hszb)
        clear hI hb1
        go_wp2
        go_roundw
        case rel => exact ⟨k + 1, by omega, by go_num, HA', HO1, hbb⟩
        case measure => simp [intOf]; omega
      · rw [decide_eq_false hp] at hI
        have HNJ : Hid (¬ JOk xss n) := fun hj => hp (hj.1 xs (by
          rw [List.take_of_length_le (by rw [HN.out]; exact Nat.le_refl _)]; exact List.mem_of_getElem? HX.out))
        clear hp
        obtain ⟨e1, e2⟩ := HB.out HNJ.out
        subst e1 e2
        go_wp2_with fail
        refine hI.mono ?_
        rintro e w1 ⟨rfl, hb1⟩
        have hbb := hb.trans (hb1.mono hszb)
        go_wp2
        go_ret2
        exact ⟨_, _, _, rfl, OwnI.nil _ _, hbb⟩
    · have hkn : k = n := by omega
      subst hkn
      obtain ⟨wo, rfl⟩ : ∃ wo : World, wo = wr := ⟨_, rfl⟩
      have HAll : Hid (∀ j, j ≤ k → ∀ r ∈ xss.take j, Perm8 r) := by
        show ∀ j, _
        intro j hj r hr
        refine HA.out r ?_
        have e : xss.take j = (xss.take k).take j := by rw [List.take_take, Nat.min_eq_left hj]
        rw [e] at hr; exact List.mem_of_mem_take hr
      have ho0 := HO.out
      go_wp2
      go_loopw [6, 10, 24] (fun v _ i wr => ∃ (j kk c1 : Nat) (a1 : Option Addr), j ≤ k ∧ kk ≤ 8 ∧ i = .int .i64 j ∧ v = .slice a1 kk c1 ∧ Hid (totL (xss.take j) = kk) ∧ (a1 = none → kk = 0) ∧ OwnI wr w.heap.size a1 kk c1 (jn sk xss j) ∧ Below w.heap.size w wr) (fun _ _ i _ => k - (intOf i).toNat)
      case atStart => exact ⟨0, 0, 0, _, Nat.zero_le _, by omega, rfl, rfl, by show _ = _; simp [totL], fun _ => rfl, ho0, hb⟩
      case round =>
        obtain ⟨j, kk, c1, a1, hj, hkk, rfl, rfl, HT, hno, ho, hb2⟩ := hrel
        by_cases hlj : j < k
        · obtain ⟨ab, ao, ra, rn, rc, xs, rfl, hx, hr, HX⟩ := (h.below hb2).at hlj
          have HPx : Hid (Perm8 xs) := HAll.out (j + 1) (by omega) xs (by rw [take_snoc HX.out]; simp)
          have HPj : Hid (IsPermL (jn sk xss j)) := perm_jn (by rw [HN.out]; omega) (HAll.out j (by omega))
          have HLn : Hid ((jn sk xss j).length = kk ∧ xs.length = rn) := ⟨ho.1, hr.2.1⟩
          have hrnb := hr.2.2.1
          have hszb := hb2.size
          by_cases hbig : 8 < kk + rn
          · have HNJ : Hid (¬ JOk xss k) := fun hjk => by
              have h1 := (JOk.mono (j := j + 1) (by omega) hjk).2
              rw [totL_snoc HX.out, HT.out, HLn.out.2] at h1
              omega
            obtain ⟨e1, e2⟩ := HB.out HNJ.out
            subst e1 e2
            clear hr ho
            go_wp2
            go_ret2
            exact ⟨_, _, _, rfl, OwnI.nil _ _, hb2⟩
          · have HP8 : Hid (Perm8 (jn sk xss j)) := ⟨by rw [HLn.out.1]; omega, HPj.out⟩
            have HT' : Hid (totL (xss.take (j + 1)) = kk + rn) := by show _ = _; rw [totL_snoc HX.out, HT.out, HLn.out.2]
            have HE : Hid (jn sk xss (j + 1) = joinL sk (jn sk xss j) xs) := jn_succ HX.out
            have hS := sum_any a1 kk c1 (jn sk xss j) ra rn rc xs sk wr (ho.sl (by omega)) hr HP8.out.sm HPx.out.sm (by omega) (by omega)
            clear ho hr
            go_wp2_with fail
            refine hS.mono ?_
            rintro e w2 ⟨a2, n2, c2, rfl, ho2, hb3⟩
            have hn2 : n2 ≤ 8 := by have h1 := ho2.1; have h2 := HLn.out; rw [length_joinL] at h1; omega
            have HT2 : Hid (totL (xss.take (j + 1)) = n2) := by have h1 := ho2.1; have h2 := HLn.out; rw [length_joinL] at h1; show _ = _; rw [HT'.out]; omega
            have hno2 : a2 = none → n2 = 0 := fun h1 => by have h2 := ho2.nilOf h1; have h3 := ho2.capOf; omega
            have ho2' : OwnI w2 w.heap.size a2 n2 c2 (jn sk xss (j + 1)) := by rw [HE.out]; exact ho2.mono hb2.size
            have hbb2 := hb2.trans (hb3.mono hb2.size)
            clear hS ho2
            go_wp2
            go_roundw
            case rel => exact ⟨j + 1, n2, c2, a2, by omega, hn2, by go_num, rfl, HT2, hno2, ho2', hbb2⟩
            case measure => simp [intOf]; omega
        · have hjk : j = k := by omega
          subst hjk
          have HJ : Hid (JOk xss j) := ⟨HAll.out j (Nat.le_refl _), by rw [HT.out]; exact hkk⟩
          obtain ⟨e1, e2⟩ := HG.out HJ.out
          subst e1 e2
          have hszb := hb2.size
          have HSl : Hid (SlI (wr.alloc (.cells #[] 3)) a1 kk c1 (jn sk xss j)) := (ho.below (below_alloc wr _)).sl (by omega)
          have HO2 : Hid (OwnI wr w.heap.size a1 kk c1 (jn sk xss j)) := ho
          clear ho
          go_wp2_with (at_builtin; refine wpList_append_any rfl _ _ rfl wr.heap.size _ _ _ _ rfl (OwnI.lit0 wr) a1 kk c1 _ rfl HSl.out (by omega) (by simp) ?_)
          intro a' c' w' g1 _ g3
          have hbb := hb2.trans (((below_alloc wr (.cells #[] 3)).trans g3).mono hszb)
          go_wp2
          go_ret2
          exact ⟨_, _, _, rfl, g1.mono hszb, hbb⟩
end Go.Proofs.Ytmojniiimondfaa
