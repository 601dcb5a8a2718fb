/- What a split's result owns; the joining of parts, of the program. Conditions: as the names say. -/
import Derived.Test.YtjhlianledgiiaaF41
import Derived.Test.YtjhlianledgiiaaF29
import Derived.Laws.ResultCell
namespace Go.Proofs.Ytjhlianledgiiaa
open Go.RowKit

theorem IIs.drop {w : World} {b o n c : Nat} {xss : List (List Int)} (h : IIs w (some ⟨b, o, none⟩) n c xss) {k : Nat} (hk : k ≤ n) : IIs w (some ⟨b, o + k, none⟩) (n - k) (c - k) (xss.drop k) := by
  have h3 := h.2.2.1; have h4 := h.2.2.2
  refine ⟨fun i xs hx => ?_, by rw [List.length_drop, h.2.1], by omega, by omega⟩
  rw [List.getElem?_drop] at hx
  obtain ⟨b', o', r, e1, e2, e3⟩ := h.1 _ xs hx
  simp only [Option.some.injEq, Addr.mk.injEq, and_true] at e1
  obtain ⟨rfl, rfl⟩ := e1
  exact ⟨b, o + k, r, rfl, by rw [Nat.add_assoc]; exact e2, e3⟩
theorem Perm8.sm' {xs : List Int} (h : Perm8 xs) : Sm xs := fun x hx => by have h1 := h.2.1 x hx; have h2 := h.1; omega

set_option maxHeartbeats 800000 in
theorem joinParts_any (a : Option Addr) (n c : Nat) (xss : List (List Int)) (sk : Bool) (w : World) (h : IIs w a n c xss) (hj : Hid (JOk xss xss.length)) :
    Calls Try.prog 117 #[.slice a n c, .bool sk] w (RetI w (jn sk xss xss.length)) := by
  have HN : Hid (xss.length = n) := h.2.1
  have hnb := h.2.2.1
  have HR : Hid (jn sk xss xss.length = jn sk xss n) := by show _ = _; rw [HN.out]
  generalize jn sk xss xss.length = R at *
  go_enter Try.func117, Try.ntmps117
  go_wp2
  go_loopw [5, 11] (fun v i wr => ∃ (k kk c1 : Nat) (a1 : Option Addr), k ≤ n ∧ kk ≤ 8 ∧ i = .int .i64 k ∧ v = .slice a1 kk c1 ∧ OwnI wr w.heap.size a1 kk c1 (jn sk xss k) ∧ Below w.heap.size w wr) (fun _ i _ => n - (intOf i).toNat)
  case atStart => exact ⟨0, 0, 0, _, Nat.zero_le _, by omega, rfl, rfl, OwnI.lit0 w, below_alloc _ _⟩
  case round =>
    obtain ⟨k, kk, c1, a1, hk, hkk, rfl, rfl, ho, hb⟩ := hrel
    by_cases hlt : k < n
    · obtain ⟨ab, ao, ra, rn, rc, xs, rfl, hx, hr, HX⟩ := (h.below hb).at hlt
      have HJk : JOk xss k := hj.out.mono (by rw [HN.out]; omega)
      have HJk1 : JOk xss (k + 1) := hj.out.mono (by rw [HN.out]; omega)
      have hxs : Perm8 xs := HJk1.1 xs (by rw [take_snoc HX.out]; simp)
      have hlen : (jn sk xss (k + 1)).length ≤ 8 := by rw [length_jn _ _ _ (by rw [HN.out]; omega)]; exact HJk1.2
      have hpj : Perm8 (jn sk xss k) := ⟨by rw [ho.1]; exact hkk, perm_jn (by rw [HN.out]; omega) HJk.1⟩
      have HE : Hid (jn sk xss (k + 1) = joinL sk (jn sk xss k) xs) := jn_succ HX.out
      have hS := sum_any a1 kk c1 (jn sk xss k) ra rn rc xs sk wr (ho.sl (by omega)) hr hpj.sm' hxs.sm' (by omega) (by have h1 := hr.2.1; have h2 := hxs.1; omega)
      rw [← HE.out] at hS
      have HL := Lib.hid hlen
      have hsz := hb.size
      clear hr hxs hpj HJk HJk1 hlen
      go_wp2_with fail
      refine hS.mono ?_
      rintro e w1 ⟨a2, n2, c2, rfl, ho2, hb2⟩
      have hn2 : n2 ≤ 8 := by have h1 := ho2.1; have h2 := HL.out; omega
      clear hS ho
      go_wp2
      go_roundw
      case rel => exact ⟨k + 1, n2, c2, a2, by omega, hn2, by go_num, rfl, ho2.mono hsz, hb.trans (hb2.mono hsz)⟩
      case measure => simp [intOf]; omega
    · obtain rfl : k = n := by omega
      rw [← HR.out] at ho
      go_wp2
      go_ret
      exact ⟨_, _, _, rfl, ho, hb⟩

/-- The call owns an inflation's memory. -/
def OwnInf (w : World) (lo hi : Nat) (a : Option Addr) (n c : Nat) (xs : List Int) (b : Option Addr) (m d : Nat) (xss : List (List Int)) : Prop :=
  ∃ rs, OwnIIr w lo hi b m d rs xss ∧ OwnIn w lo hi a n c xs ∧ ∀ r ∈ rs, ∀ p q, r.1 = some p → a = some q → p.block ≠ q.block
theorem OwnIIr.toII {w : World} {lo hi n c : Nat} {a : Option Addr} {rs : List (Option Addr × Nat × Nat)} {xss : List (List Int)} (h : OwnIIr w lo hi a n c rs xss) : OwnII w lo hi a n c xss := ⟨rs, h⟩
theorem OwnInf.below {w w' : World} {lo hi : Nat} {a : Option Addr} {n c : Nat} {xs : List Int} {b : Option Addr} {m d : Nat} {xss : List (List Int)} (h : OwnInf w lo hi a n c xs b m d xss) (hb : Below w.heap.size w w') : OwnInf w' lo hi a n c xs b m d xss := by
  obtain ⟨rs, h1, h2, h3⟩ := h
  exact ⟨rs, h1.below hb, h2.below hb, h3⟩
theorem OwnInf.mono {w : World} {lo hi lo' hi' : Nat} {a : Option Addr} {n c : Nat} {xs : List Int} {b : Option Addr} {m d : Nat} {xss : List (List Int)} (h : OwnInf w lo hi a n c xs b m d xss) (h1' : lo' ≤ lo) (h2' : hi ≤ hi') : OwnInf w lo' hi' a n c xs b m d xss := by
  obtain ⟨rs, h1, h2, h3⟩ := h
  exact ⟨rs, h1.mono h1' h2', h2.mono h1' h2', h3⟩
theorem OwnInf.out {w w' : World} {lo hi l r : Nat} {a : Option Addr} {n c : Nat} {xs : List Int} {b : Option Addr} {m d : Nat} {xss : List (List Int)} (h : OwnInf w lo hi a n c xs b m d xss) (ho : Out l r w w') (hd : hi ≤ l ∨ r ≤ lo) : OwnInf w' lo hi a n c xs b m d xss := by
  obtain ⟨rs, h1, h2, h3⟩ := h
  exact ⟨rs, h1.out ho hd, h2.out ho hd, h3⟩
theorem OwnInf.root {w : World} {lo hi : Nat} {a : Option Addr} {n c : Nat} {xs : List Int} {b : Option Addr} {m d : Nat} {xss : List (List Int)} (h : OwnInf w lo hi a n c xs b m d xss) : OwnIn w lo hi a n c xs := by
  obtain ⟨rs, h1, h2, h3⟩ := h; exact h2
theorem OwnInf.parts {w : World} {lo hi : Nat} {a : Option Addr} {n c : Nat} {xs : List Int} {b : Option Addr} {m d : Nat} {xss : List (List Int)} (h : OwnInf w lo hi a n c xs b m d xss) : OwnII w lo hi b m d xss := by
  obtain ⟨rs, h1, h2, h3⟩ := h; exact ⟨rs, h1⟩
/-- What an inflation, given back, is. -/
def RetS (w : World) (xs : List Int) (xss : List (List Int)) (e : Ending) (w' : World) : Prop :=
  ∃ a n c b m d, e = .returned (.agg #[.slice a n c, .slice b m d]) ∧ OwnInf w' w.heap.size w'.heap.size a n c xs b m d xss ∧ Below w.heap.size w w'

theorem results_cell1 {fn : Func} {p : Tmp} {ty : TypeId} (h : fn.results = #[.cell p ty]) (tmps : Array Value) (P : Program) (w : World) :
    (results fn tmps).run P w = ((asAddr (tmps.getD p undef)).run P w).andThen fun a w1 => (loadVar ty a).run P w1 := by
  simp only [results, h]
  simp [Sem.run_bind, Result.andThen]
theorem cellThru {W w1 : World} {B : Nat} {p : Addr} {v : Value} (hb : Below B W w1) (hp : p.block < B) (hc : W.cell? p = some v) : w1.cell? p = some v := (hb.cell hp).trans hc
theorem frozenThru {W w1 : World} {B : Nat} {p : Addr} (hb : Below B W w1) (hp : p.block < B) (hc : W.frozen? p = false) : w1.frozen? p = false := (hb.frozen hp).trans hc
theorem out_setCell {w : World} {lo hi : Nat} {p : Addr} (h1 : lo ≤ p.block) (h2 : p.block < hi) (v : Value) : Out lo hi w (w.setCell p v) :=
  ⟨rfl, rfl, rfl, by simp, fun k _ hr => Below.heap_setCell w p v k (by omega)⟩
/-- A block of integers, just laid. -/
theorem OwnI.lit (w : World) (vs : List Int) (h : vs.length ≤ 8) : OwnI (w.alloc (.cells (vs.map (.int .i64)).toArray 3)) w.heap.size (some ⟨w.heap.size, 0, none⟩) vs.length vs.length vs :=
  ⟨rfl, by
    have := World.ownsRow_lit (e := 3) (size := 1) (base := w.heap.size) w (vs.map (.int .i64)).toArray vs.length (Nat.le_refl _) (by unfold maxLen; omega) (by simp)
    simpa using this⟩

/-- A block of rows, just laid. -/
theorem OwnIIr.lit {w : World} {lo hi : Nat} (rs : List (Option Addr × Nat × Nat)) (xss : List (List Int)) (hl : xss.length = rs.length) (h8 : rs.length ≤ 1048576)
    (hrow : ∀ (i : Nat) (r : Option Addr × Nat × Nat) (xs : List Int), rs[i]? = some r → xss[i]? = some xs → OwnIn w lo hi r.1 r.2.1 r.2.2 xs)
    (hdis : ∀ (i j : Nat) (r s : Option Addr × Nat × Nat) (p q : Addr), i < j → rs[i]? = some r → rs[j]? = some s → r.1 = some p → s.1 = some q → p.block ≠ q.block) (hlo : lo ≤ w.heap.size) (hhi : hi ≤ w.heap.size) :
    OwnIIr (w.alloc (.cells (rs.map sl3).toArray 22)) lo (w.heap.size + 1) (some ⟨w.heap.size, 0, none⟩) rs.length rs.length rs xss := by
  refine ⟨hl, rfl, ?_, fun p hp => by obtain rfl := Option.some.inj hp; exact Nat.lt_succ_self _, fun i r xs hr hx => ?_, hdis⟩
  · have h := World.ownsRow_lit (e := 22) (size := 1) (base := w.heap.size) w (rs.map sl3).toArray rs.length (Nat.le_refl _) (by unfold maxLen; omega) (by simp)
    have h2 := own_mono (B' := lo) h hlo
    simpa using h2
  · exact ((hrow i r xs hr hx).below (below_alloc _ _)).mono (Nat.le_refl _) (by omega)
end Go.Proofs.Ytjhlianledgiiaa
