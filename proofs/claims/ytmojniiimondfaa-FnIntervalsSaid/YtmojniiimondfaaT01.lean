/- Slices of strings: how they read, what a call owns of them, one more appended; the laws' helper that compares them. Conditions: the lengths are at most 2^21. -/
import Derived.Test.YtmojniiimondfaaT00
import Derived.Laws.Strings
namespace Go.Proofs.Ytmojniiimondfaa
open Go.RowKit

theorem infoStr : (Try.prog.info? 9).map (fun i => (i.zero, i.size, i.bytes)) = some (some (.string ⟨#[]⟩), 1, 16) := by kernel_rfl
/-- The slice at address a reads as ss. -/
def Strs (w : World) (a : Option Addr) (ss : List ByteArray) : Prop :=
  ∀ i s, ss[i]? = some s → ∃ b o, a = some ⟨b, o, none⟩ ∧ w.cell? ⟨b, o + i, none⟩ = some (.string s)
theorem Strs.at {w : World} {a : Option Addr} {ss : List ByteArray} (h : Strs w a ss) {i : Nat} (hi : i < ss.length) :
    ∃ b o s, a = some ⟨b, o, none⟩ ∧ w.cell? ⟨b, o + i, none⟩ = some (.string s) ∧ Hid (ss[i]? = some s) := by
  obtain ⟨b, o, h1, h2⟩ := h i _ (List.getElem?_eq_getElem hi)
  exact ⟨b, o, _, h1, h2, List.getElem?_eq_getElem hi⟩
theorem Strs.below {w w' : World} {a : Option Addr} {ss : List ByteArray} (h : Strs w a ss) (hb : Below w.heap.size w w') : Strs w' a ss := by
  intro i s hs
  obtain ⟨b, o, h1, h2⟩ := h i s hs
  exact ⟨b, o, h1, (hb.cell (p := ⟨b, o + i, none⟩) (World.block_lt_of_cell? w _ h2)).trans h2⟩
theorem Strs.quiet {w w' : World} {a : Option Addr} {ss : List ByteArray} (h : Strs w a ss) (hq : Quiet w w') : Strs w' a ss := by
  obtain ⟨q, rfl⟩ := hq; exact h
theorem Strs.out {w w' : World} {a : Option Addr} {ss : List ByteArray} {lo hi : Nat} (h : Strs w a ss) (ho : Out lo hi w w') (ha : ∀ p, a = some p → p.block < lo ∨ hi ≤ p.block) : Strs w' a ss := by
  intro i s hs
  obtain ⟨b, o, h1, h2⟩ := h i s hs
  exact ⟨b, o, h1, (World.cell?_of_block (w := w) (ho.block b (World.block_lt_of_cell? w ⟨b, o + i, none⟩ h2) (ha _ h1))).trans h2⟩
/-- The call owns the slice (a, n, c) of strings, which reads as ss; its block has a number from B on. -/
def OwnS (w : World) (B : Nat) (a : Option Addr) (n c : Nat) (ss : List ByteArray) : Prop :=
  ss.length = n ∧ w.ownsRow B 9 1 (.slice a n c) n (ss.map .string)
theorem OwnS.strs {w : World} {B n c : Nat} {a : Option Addr} {ss : List ByteArray} (h : OwnS w B a n c ss) : Strs w a ss := by
  intro i s hs
  have hi : i < n := by rw [← h.1]; exact (List.getElem?_eq_some_iff.1 hs).1
  rcases h.2.2 with ⟨h2, h3⟩ | ⟨g, cap, cur, h2, _⟩
  · omega
  · simp only [Value.slice.injEq] at h2
    obtain ⟨rfl, _, rfl⟩ := h2
    refine ⟨g, 0, rfl, ?_⟩
    rw [Nat.zero_add, h.2.cellAt i (by omega), List.getElem?_map, hs]; rfl
theorem OwnS.below {w w' : World} {B n c : Nat} {a : Option Addr} {ss : List ByteArray} (h : OwnS w B a n c ss) (hb : Below w.heap.size w w') : OwnS w' B a n c ss := ⟨h.1, own_below' h.2 hb⟩
theorem OwnS.mono {w : World} {B B' n c : Nat} {a : Option Addr} {ss : List ByteArray} (h : OwnS w B a n c ss) (hB : B' ≤ B) : OwnS w B' a n c ss := ⟨h.1, own_mono h.2 hB⟩
theorem OwnS.nil (w : World) (B : Nat) : OwnS w B none 0 0 [] := ⟨rfl, World.ownsRow_nil _ _ _ _⟩
theorem OwnS.lo {w : World} {B n c : Nat} {a : Option Addr} {ss : List ByteArray} (h : OwnS w B a n c ss) : ∀ p, a = some p → B ≤ p.block ∧ p.block < w.heap.size := by
  intro p hp; subst hp; exact h.2.lt p.block rfl
theorem OwnS.capOf {w : World} {B n c : Nat} {a : Option Addr} {ss : List ByteArray} (h : OwnS w B a n c ss) : n ≤ c := by
  rcases h.2.2 with ⟨h2, h3⟩ | ⟨g, cap, cur, h2, _, _, h3, _⟩
  · simp only [Value.slice.injEq] at h2; omega
  · simp only [Value.slice.injEq] at h2; omega
theorem OwnS.cell {w : World} {B n c g : Nat} {ss : List ByteArray} (h : OwnS w B (some ⟨g, 0, none⟩) n c ss) {j : Nat} (hj : j < n) : ∃ y, w.cell? ⟨g, j, none⟩ = some (.string y) ∧ Hid (ss[j]? = some y) := by
  obtain ⟨b, o, y, h1, h2, h3⟩ := h.strs.at (i := j) (by rw [h.1]; exact hj)
  simp only [Option.some.injEq, Addr.mk.injEq, and_true] at h1
  obtain ⟨rfl, rfl⟩ := h1
  exact ⟨y, by simpa using h2, h3⟩
theorem OwnS.lit0 (w : World) : OwnS (w.alloc (.cells #[] 9)) w.heap.size (some ⟨w.heap.size, 0, none⟩) 0 0 [] :=
  ⟨rfl, World.ownsRow_lit w #[] 0 (Nat.le_refl _) (Nat.zero_le _) rfl⟩
theorem OwnS.set {w : World} {B n c g o : Nat} {ss : List ByteArray} (h : OwnS w B (some ⟨g, o, none⟩) n c ss) (j : Nat) (x : ByteArray) :
    o = 0 ∧ OwnS (w.setCell ⟨g, j, none⟩ (.string x)) B (some ⟨g, o, none⟩) n c (ss.set j x) ∧ w.grownBy (w.setCell ⟨g, j, none⟩ (.string x)) (some g) := by
  have ho : o = 0 := by
    rcases h.2.2 with ⟨h2, _⟩ | ⟨g', cap, cur, h2, _⟩
    · simp at h2
    · simp only [Value.slice.injEq, Option.some.injEq, Addr.mk.injEq, and_true] at h2; omega
  subst ho
  obtain ⟨h1, h2⟩ := h.2.stored j (.string x)
  exact ⟨rfl, ⟨by simpa using h.1, by simpa [List.map_set] using h1⟩, h2⟩
theorem OwnS.frozen {w : World} {B n c g o : Nat} {ss : List ByteArray} (h : OwnS w B (some ⟨g, o, none⟩) n c ss) (j : Nat) : w.frozen? ⟨g, j, none⟩ = false := by
  have ho : o = 0 := by
    rcases h.2.2 with ⟨h2, _⟩ | ⟨g', cap, cur, h2, _⟩
    · simp at h2
    · simp only [Value.slice.injEq, Option.some.injEq, Addr.mk.injEq, and_true] at h2; omega
  subst ho
  exact h.2.frozenAt j
theorem OwnS.head {w : World} {B n c : Nat} {a : Option Addr} {ss : List ByteArray} (h : OwnS w B a n c ss) (hn : 0 < n) : ∃ g, a = some ⟨g, 0, none⟩ ∧ B ≤ g ∧ g < w.heap.size := by
  rcases h.2.2 with ⟨_, h2⟩ | ⟨g, cap, cur, h2, hg, hh, _⟩
  · omega
  · simp only [Value.slice.injEq] at h2
    exact ⟨g, h2.1, hg, (Array.getElem?_eq_some_iff.1 hh).1⟩
/-- A slice of strings, as the contracts ask it. -/
def SlS (w : World) (a : Option Addr) (n c : Nat) (ss : List ByteArray) : Prop := Strs w a ss ∧ ss.length = n ∧ n ≤ 2097152 ∧ n ≤ c
theorem SlS.below {w w' : World} {a : Option Addr} {n c : Nat} {ss : List ByteArray} (h : SlS w a n c ss) (hb : Below w.heap.size w w') : SlS w' a n c ss := ⟨h.1.below hb, h.2⟩
theorem OwnS.sl {w : World} {B n c : Nat} {a : Option Addr} {ss : List ByteArray} (h : OwnS w B a n c ss) (hn : n ≤ 2097152) : SlS w a n c ss := ⟨h.strs, h.1, hn, h.capOf⟩
/-- What a slice of strings, given back, is. -/
def RetSs (w : World) (ss : List ByteArray) (e : Ending) (w' : World) : Prop :=
  ∃ a n c, e = .returned (.slice a n c) ∧ OwnS w' w.heap.size a n c ss ∧ Below w.heap.size w w'
/-- 'append(out, s)' on the call's own slice of strings. -/
theorem wpList_appS {w : World} {ops : Array Oper} {rest : List Oper} {o : Oper} {act : Act} {Q : Exit → Act → World → Prop} (hgd : o.guard = none) (s x : Operand)
    (ho : o.op = .call { callee := .builtin .append, args := #[s, x], argTypes := #[22, 22] })
    (B : Nat) (a : Option Addr) (n c : Nat) (ss : List ByteArray) (hs : act.eval s = .slice a n c) (hown : OwnS w B a n c ss)
    (y : ByteArray) (hx : act.eval x = .slice (some ⟨w.heap.size, 0, none⟩) 1 1) (hn : n < 4194304) (hB : B ≤ w.heap.size)
    (h : ∀ a' c' w', OwnS w' B a' (n + 1) c' (ss ++ [y]) → Below B w w' → wpList Try.prog ops Q rest (act.put o.dst (.slice a' (n + 1) c')) w') :
    wpList Try.prog ops Q (o :: rest) act (w.alloc (.cells #[.string y] 9)) :=
  wpList_app1 hgd s x 22 ho B 9 _ 16 Try.underlying22 infoStr rfl a n c _ hs hown.2 _ rfl hx hn (by omega) hB
    fun a' c' w' h1 _ h3 => h a' c' w' ⟨by rw [List.length_append, hown.1]; rfl, by simpa using h1⟩ h3

set_option maxHeartbeats 400000 in
theorem eqStringS_same (a b : Option Addr) (n m c d : Nat) (ss : List ByteArray) (w : World) (ha : SlS w a n c ss) (hb : SlS w b m d ss) :
    Calls Try.prog 13 #[.slice a n c, .slice b m d] w (RetV w (.bool true)) := by
  obtain rfl : n = m := by rw [← ha.2.1, hb.2.1]
  have HN : Hid (ss.length = n) := ha.2.1
  have hnb := ha.2.2.1
  have hA := ha.1
  have hB := hb.1
  clear ha hb
  go_enter Try.func13, Try.ntmps13
  go_wp2
  go_loopw [5] (fun i wr => ∃ k : Nat, k ≤ n ∧ i = .int .i64 k ∧ ∃ q, wr = w.drewN q) (fun i _ => n - (intOf i).toNat)
  case atStart => exact ⟨0, Nat.zero_le _, rfl, 0, rfl⟩
  case round =>
    obtain ⟨k, hk, rfl, q, rfl⟩ := hrel
    by_cases hlt : k < n
    · obtain ⟨ab, ao, x, rfl, hx, HX⟩ := hA.at (i := k) (by rw [HN.out]; exact hlt)
      obtain ⟨bb, bo, y, rfl, hy, HY⟩ := hB.at (i := k) (by rw [HN.out]; exact hlt)
      obtain rfl : x = y := by have h1 := HX.out; have h2 := HY.out; rw [h1] at h2; exact Option.some.inj h2
      go_wp2
      go_quiet (fail)
      go_wp2
      go_roundw
      case rel => exact ⟨k + 1, by omega, by go_num, _, rfl⟩
      case measure => simp [intOf]; omega
    · go_wp2
      go_ret
      exact ⟨rfl, ((Quiet.refl w).drewN q).below _⟩
end Go.Proofs.Ytmojniiimondfaa
