/- Appends of rows onto the call's own rows, as steps of a region; the reference's comparison l2Before. Conditions: as the names say. -/
import Derived.Test.YtjhlianledgiiaaF45
import Derived.Test.YtjhlianledgiiaaF62
import Derived.Test.YtjhlianledgiiaaF11
import Derived.ArgAppend
import Derived.OwnWalk
namespace Go.Proofs.Ytjhlianledgiiaa
open Go.RowKit

theorem run_append_loc (w : World) (ty : TypeId) (B g n c : Nat) (xs : List Value) (hown : w.ownsRow B 22 1 (.slice (some ⟨g, 0, none⟩) n c) n xs) (p : Addr) (m d : Nat) (news : List Value) (hl : news.length = m)
    (hc : ∀ (j : Nat) u, news[j]? = some u → w.cell? (p.add j) = some u) (h1 : ∀ u ∈ news, u.oneCell' = true) (hn : n + m < 4194304) (hB : B ≤ w.heap.size) :
    ∃ g' c' w', (Builtin.append_ #[23, 23] ty #[.slice (some ⟨g, 0, none⟩) n c, .slice (some p) m d]).run Try.prog w = .ok (.slice (some ⟨g', 0, none⟩) (n + m) c') w' ∧
      w'.ownsRow B 22 1 (.slice (some ⟨g', 0, none⟩) (n + m) c') (n + m) (xs ++ news) ∧ (g' = g ∨ w.heap.size ≤ g') ∧ w.grownBy w' (some g) := by
  obtain ⟨i0, hi, hz0, hz1, hz2⟩ := info_parts infoRow
  have hm1 : news.length = m * 1 := by rw [hl, Nat.mul_one]
  by_cases hr : n + m ≤ c
  · obtain ⟨w', hrun, r1, r2⟩ := run_append_fits (P := Try.prog) w B 23 ty 22 i0 1 Try.underlying23 hi hz1 g n c xs hown p m d news hm1 hc h1 hr
    exact ⟨g, c, w', hrun, r1, .inl rfl, r2⟩
  · have hold : ∀ (j : Nat) u, xs[j]? = some u → w.cell? ((⟨g, 0, none⟩ : Addr).add j) = some u := by
      intro j u hj
      have hjn : j < n := by have h2 := (List.getElem?_eq_some_iff.1 hj).1; have h3 := hown.1; omega
      rw [Addr.add_lit, Nat.zero_add, hown.cellAt j (by omega)]; exact hj
    obtain ⟨v', w', hrun, r1, r2⟩ := run_append_arg_grows (P := Try.prog) w 23 ty 22 i0 (.slice none 0 0) 1 24 Try.underlying23 hi hz0 hz1 hz2 rfl (by decide) ⟨g, 0, none⟩ n c xs hown.1 hold p m d news hm1 hc (by omega) (by unfold maxLen; omega) (by omega)
    obtain ⟨a', c', rfl⟩ := own_slice r1
    have hcap : n ≤ c := by
      rcases hown.2 with ⟨h2, _⟩ | ⟨g2, cap, cur, h2, _, _, h3, _⟩
      · simp at h2
      · simp only [Value.slice.injEq] at h2; omega
    obtain ⟨g', cur, rfl, hg', hh⟩ := own_head r1 (by omega)
    exact ⟨g', c', w', hrun, own_mono r1 hB, .inr hg', ⟨r2.os, r2.tape, r2.output, r2.size, fun k hk _ => r2.block k hk (by simp)⟩⟩

/-- 'append(rows, ..)' as a step of a region that draws its order. -/
theorem step_append_loc {ops : Array Oper} {o : Oper} {act : Act} {w : World} {K : Act → World → Prop} {Q : Exit → Act → World → Prop} {E : Prop} (hgd : o.guard = none) (s x : Operand)
    (ho : o.op = .call { callee := .builtin .append, args := #[s, x], argTypes := #[23, 23] })
    (B g n c : Nat) (xs : List Value) (hs : act.eval s = .slice (some ⟨g, 0, none⟩) n c) (hown : w.ownsRow B 22 1 (.slice (some ⟨g, 0, none⟩) n c) n xs)
    (p : Addr) (m d : Nat) (news : List Value) (hx : act.eval x = .slice (some p) m d) (hl : news.length = m) (hc : ∀ (j : Nat) u, news[j]? = some u → w.cell? (p.add j) = some u) (h1 : ∀ u ∈ news, u.oneCell' = true) (hn : n + m < 4194304) (hB : B ≤ w.heap.size)
    (h : ∀ g' c' w', w'.ownsRow B 22 1 (.slice (some ⟨g', 0, none⟩) (n + m) c') (n + m) (xs ++ news) → (g' = g ∨ w.heap.size ≤ g') → w.grownBy w' (some g) → K (act.put o.dst (.slice (some ⟨g', 0, none⟩) (n + m) c')) w') :
    if Region.wanted o (yielded ops act.tmps) = true then Oper.wp Try.prog o act w K Q else E := by
  have hw : Region.wanted o (yielded ops act.tmps) = true := by simp [Region.wanted, hgd]
  rw [if_pos hw]
  obtain ⟨g', c', w', hrun, r1, r2, r3⟩ := run_append_loc w o.type B g n c xs hown p m d news hl hc h1 hn hB
  unfold Oper.wp execOp
  simp only [ho, resolve, invoke, builtin, Sem.run_bind, Sem.run_pure, Result.andThen_ok, List.map_toArray, List.map_cons, List.map_nil, hs, hx, hrun]
  exact h g' c' w' r1 r2 r3
theorem wpList_append_loc {w : World} {ops : Array Oper} {rest : List Oper} {o : Oper} {act : Act} {Q : Exit → Act → World → Prop} (hgd : o.guard = none) (s x : Operand)
    (ho : o.op = .call { callee := .builtin .append, args := #[s, x], argTypes := #[23, 23] })
    (B g n c : Nat) (xs : List Value) (hs : act.eval s = .slice (some ⟨g, 0, none⟩) n c) (hown : w.ownsRow B 22 1 (.slice (some ⟨g, 0, none⟩) n c) n xs)
    (p : Addr) (m d : Nat) (news : List Value) (hx : act.eval x = .slice (some p) m d) (hl : news.length = m) (hc : ∀ (j : Nat) u, news[j]? = some u → w.cell? (p.add j) = some u) (h1 : ∀ u ∈ news, u.oneCell' = true) (hn : n + m < 4194304) (hB : B ≤ w.heap.size)
    (h : ∀ g' c' w', w'.ownsRow B 22 1 (.slice (some ⟨g', 0, none⟩) (n + m) c') (n + m) (xs ++ news) → (g' = g ∨ w.heap.size ≤ g') → w.grownBy w' (some g) → wpList Try.prog ops Q rest (act.put o.dst (.slice (some ⟨g', 0, none⟩) (n + m) c')) w') : wpList Try.prog ops Q (o :: rest) act w := by
  obtain ⟨g', c', w', hrun, r1, r2, r3⟩ := run_append_loc w o.type B g n c xs hown p m d news hl hc h1 hn hB
  exact wpList_append_run hgd s x _ _ ho _ _ _ hs hx hrun (h g' c' w' r1 r2 r3)

theorem putAt_succ {xss : List (List Int)} {p : List Int} {k : Nat} {x : List Int} (h : xss[k]? = some x) : putAt xss p (k + 1) = if cmpP p x < 0 then putAt xss p k else k + 1 := by
  rw [putAt, getD_of h]
theorem rows_oneCell (rs : List (Option Addr × Nat × Nat)) : ∀ u ∈ rs.map sl3, u.oneCell' = true := by
  intro u hu
  obtain ⟨r, _, rfl⟩ := List.mem_map.1 hu
  rfl
end Go.Proofs.Ytjhlianledgiiaa
