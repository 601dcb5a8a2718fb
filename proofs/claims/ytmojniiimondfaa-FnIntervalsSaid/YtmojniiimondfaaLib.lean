/- Plain helpers of this seat's proofs: how a slice of integers reads in memory, what a call owns, small laws for the walk. No condition. -/
import Derived.Test.YtmojniiimondfaaRows
import Derived.WalkKit
import Derived.WalkSpells
import Derived.WalkLawsBesides
import Derived.Deep.QuietTactic
import Derived.BigQuiet
import Derived.Lib.Hide
namespace Go.Proofs.Ytmojniiimondfaa
open Go.RowKit

/-! ### endings -/
theorem ret_bool {a b : Bool} (h : a = b) : Ending.returned (.bool a) = .returned (.bool b) := by rw [h]
theorem ret_int {k : IntKind} {a b : Int} (h : a = b) : Ending.returned (.int k a) = .returned (.int k b) := by rw [h]
theorem ret_str {a b : ByteArray} (h : a = b) : Ending.returned (.string a) = .returned (.string b) := by rw [h]

/-! ### worlds -/
/-- The world has moved on by draws alone. -/
def Quiet (w w' : World) : Prop := ∃ q, w' = w.drewN q
theorem Quiet.refl (w : World) : Quiet w w := ⟨0, rfl⟩
theorem Quiet.drewN {w w' : World} (h : Quiet w w') (n : Nat) : Quiet w (w'.drewN n) := by
  obtain ⟨q, rfl⟩ := h; exact ⟨q + n, World.drewN_drewN _ _ _⟩
theorem Quiet.drew {w w' : World} (h : Quiet w w') : Quiet w w'.drew := by
  obtain ⟨q, rfl⟩ := h; exact ⟨q + 1, by rw [← World.drewN_drewN]; rfl⟩
theorem Quiet.trans {a b c : World} (h : Quiet a b) (k : Quiet b c) : Quiet a c := by
  obtain ⟨q, rfl⟩ := h; obtain ⟨r, rfl⟩ := k; exact ⟨q + r, World.drewN_drewN _ _ _⟩
theorem below_drewN' {B : Nat} {a w : World} (h : Below B a w) (q : Nat) : Below B a (w.drewN q) := ⟨h.os, h.tape, h.output, h.size, h.block⟩
theorem Quiet.below {w w' : World} (h : Quiet w w') (B : Nat) : Below B w w' := by
  obtain ⟨q, rfl⟩ := h; exact below_drewN' (Below.refl _ _) q

theorem bcell {W w1 : World} {B : Nat} (hb : Below B W w1) : (∀ b o, b < B → w1.cell? ⟨b, o, none⟩ = W.cell? ⟨b, o, none⟩) ∧ (∀ b o, b < B → w1.frozen? ⟨b, o, none⟩ = W.frozen? ⟨b, o, none⟩) :=
  ⟨fun b o h => hb.cell (p := ⟨b, o, none⟩) h, fun b o h => hb.frozen (p := ⟨b, o, none⟩) h⟩

theorem grownBy_alloc_trans {w w1 : World} {o : Obj} {row : Option Nat} (h : (w.alloc o).grownBy w1 row) : w.grownBy w1 row :=
  ⟨h.os, h.tape, h.output, Nat.le_trans (by simp) h.size, fun k hk hr => (h.block k (by simp; omega) hr).trans (Below.heap_alloc w o k hk)⟩
theorem grownBy_below {w w1 : World} {row : Option Nat} {B : Nat} (h : w.grownBy w1 row) (hB : B ≤ w.heap.size) (hr : ∀ k, row = some k → B ≤ k) : Below B w w1 :=
  (Below.refl B w).grown h hB hr
theorem grownBy_trans {a b c : World} {row : Option Nat} (h : a.grownBy b row) (k : b.grownBy c row) : a.grownBy c row :=
  ⟨k.os.trans h.os, k.tape.trans h.tape, k.output.trans h.output, Nat.le_trans h.size k.size, fun i hi hr => (k.block i (Nat.lt_of_lt_of_le hi h.size) hr).trans (h.block i hi hr)⟩
theorem grownBy_drewN {a b : World} {row : Option Nat} (h : a.grownBy b row) (q : Nat) : a.grownBy (b.drewN q) row :=
  ⟨h.os, h.tape, h.output, h.size, h.block⟩
theorem Below.toGrown {w w' : World} (h : Below w.heap.size w w') (row : Option Nat) : w.grownBy w' row :=
  ⟨h.os, h.tape, h.output, h.size, fun k hk _ => h.block k hk⟩

/-! ### rows that a call owns -/
theorem own_slice {w : World} {B E n : Nat} {v : Value} {xs : List Value} (h : w.ownsRow B E 1 v n xs) : ∃ a c, v = .slice a n c := by
  rcases h.2 with ⟨rfl, rfl⟩ | ⟨g, cap, cur, rfl, _⟩
  · exact ⟨_, _, rfl⟩
  · exact ⟨_, _, rfl⟩
theorem own_mono {w : World} {B B' E s n : Nat} {v : Value} {xs : List Value} (h : w.ownsRow B E s v n xs) (hB : B' ≤ B) : w.ownsRow B' E s v n xs := by
  refine ⟨h.1, ?_⟩
  rcases h.2 with h2 | ⟨g, cap, cur, rfl, hg, r⟩
  · exact .inl h2
  · exact .inr ⟨g, cap, cur, rfl, Nat.le_trans hB hg, r⟩
theorem own_below {w w' : World} {B C E s n : Nat} {v : Value} {xs : List Value} (h : w.ownsRow B E s v n xs) (hb : Below C w w') (hC : ∀ k, v.ownBlock = some k → k < C) : w'.ownsRow B E s v n xs := by
  refine ⟨h.1, ?_⟩
  rcases h.2 with h2 | ⟨g, cap, cur, rfl, hg, hh, r⟩
  · exact .inl h2
  · exact .inr ⟨g, cap, cur, rfl, hg, (hb.block g (hC g rfl)).trans hh, r⟩
theorem own_below' {w w' : World} {B E s n : Nat} {v : Value} {xs : List Value} (h : w.ownsRow B E s v n xs) (hb : Below w.heap.size w w') : w'.ownsRow B E s v n xs :=
  own_below h hb fun k hk => (h.lt k hk).2
theorem own_drewN {w : World} {B E s n : Nat} {v : Value} {xs : List Value} (h : w.ownsRow B E s v n xs) (q : Nat) : (w.drewN q).ownsRow B E s v n xs := h

/-- 'append(out, x)', one element of one cell, 'out' the call's own. -/
theorem wpList_app1 {P : Program} {w : World} {ops : Array Oper} {rest : List Oper} {o : Oper} {act : Act} {Q : Exit → Act → World → Prop} (hgd : o.guard = none) (s x : Operand) (t : TypeId)
    (ho : o.op = .call { callee := .builtin .append, args := #[s, x], argTypes := #[t, t] })
    (B : Nat) (e : TypeId) (z : Value) (bytes : Nat) (ht : P.underlying t = some (.slice e)) (hinfo : (P.info? e).map (fun i => (i.zero, i.size, i.bytes)) = some (some z, 1, bytes)) (hz : z.cells.size = 1)
    (a : Option Addr) (n c : Nat) (xs : List Value) (hs : act.eval s = .slice a n c) (hown : w.ownsRow B e 1 (.slice a n c) n xs)
    (u : Value) (hu : u.oneCell' = true) (hx : act.eval x = .slice (some ⟨w.heap.size, 0, none⟩) 1 1)
    (hn : n < 4194304) (hb : bytes ≤ 64) (hB : B ≤ w.heap.size)
    (h : ∀ a' c' w', w'.ownsRow B e 1 (.slice a' (n + 1) c') (n + 1) (xs ++ [u]) → w.grownBy w' (Value.slice a n c).ownBlock → Below B w w' → wpList P ops Q rest (act.put o.dst (.slice a' (n + 1) c')) w') :
    wpList P ops Q (o :: rest) act (w.alloc (.cells #[u] e)) := by
  obtain ⟨i0, hi, hz0, hz1, hz2⟩ := info_parts hinfo
  refine wpList_append_own (w.alloc (.cells #[u] e)) hgd s x t ho B e i0 z 1 bytes ht hi hz0 hz1 hz2 hz (by decide) _ n xs hs (hown.alloc _) ⟨w.heap.size, 0, none⟩ 1 1 [u] hx rfl ?_ ?_ ?_ ?_ ?_ ?_
  · intro j v hj
    match j, hj with
    | 0, hj => simp at hj; subst hj; simp [Addr.add]
  · intro v hv; simp at hv; subst hv; exact hu
  · unfold maxLen; omega
  · have : (n + 1) * bytes ≤ 4194304 * 64 := Nat.mul_le_mul (by omega) hb
    omega
  · simp; omega
  · intro v' w' h1 h2 _
    obtain ⟨a', c', rfl⟩ := own_slice h1
    have h3 := grownBy_alloc_trans h2
    exact h a' c' w' h1 h3 (grownBy_below h3 hB fun k hk => (hown.lt k hk).1)

/-- 'make([]T, n)', elements of one cell. -/
theorem wpList_mk1 {P : Program} {w : World} {ops : Array Oper} {rest : List Oper} {o : Oper} {act : Act} {Q : Exit → Act → World → Prop} (hgd : o.guard = none) (l c : Operand) (t : TypeId)
    (ho : o.op = Op.makeSlice t l c) (e : TypeId) (z : Value) (bytes : Nat) (ht : P.underlying t = some (.slice e)) (hinfo : (P.info? e).map (fun i => (i.zero, i.size, i.bytes)) = some (some z, 1, bytes)) (hz : z.cells = #[z])
    (kl kc : IntKind) (n : Nat) (hl : act.eval l = .int kl (n : Int)) (hc : act.eval c = .int kc (n : Int)) (hn : n ≤ 4194304) (hb : bytes ≤ 64)
    (h : ∀ w', w'.ownsRow w.heap.size e 1 (.slice (some ⟨w.heap.size, 0, none⟩) n n) n (List.replicate n z) → Below w.heap.size w w' → wpList P ops Q rest (act.put o.dst (.slice (some ⟨w.heap.size, 0, none⟩) n n)) w') :
    wpList P ops Q (o :: rest) act w := by
  obtain ⟨i0, hi, hz0, hz1, hz2⟩ := info_parts hinfo
  refine wpList_make_full w hgd l c t ho w.heap.size e i0 z 1 ht hi hz0 hz1 kl kc _ _ n hl hc rfl rfl ?_ ?_ (Nat.le_refl _) ?_
  · have : i0.bytes * n ≤ 64 * 4194304 := Nat.mul_le_mul (by omega) hn
    omega
  · unfold maxLen; omega
  · intro w' h1 h2
    refine h w' ?_ (grownBy_below h2 (Nat.le_refl _) (by simp))
    rw [hz, Nat.mul_one, toList_madeCells_one] at h1
    exact h1

/-! ### slices of integers -/
/-- The slice at address a reads as xs. -/
def Ints (w : World) (a : Option Addr) (xs : List Int) : Prop :=
  ∀ i x, xs[i]? = some x → ∃ b o, a = some ⟨b, o, none⟩ ∧ w.cell? ⟨b, o + i, none⟩ = some (.int .i64 x)
theorem Ints.at {w : World} {a : Option Addr} {xs : List Int} (h : Ints w a xs) {i : Nat} (hi : i < xs.length) :
    ∃ b o x, a = some ⟨b, o, none⟩ ∧ w.cell? ⟨b, o + i, none⟩ = some (.int .i64 x) ∧ Hid (xs[i]? = some x) := by
  obtain ⟨b, o, h1, h2⟩ := h i _ (List.getElem?_eq_getElem hi)
  exact ⟨b, o, _, h1, h2, List.getElem?_eq_getElem hi⟩
theorem Ints.cell {w : World} {b o : Nat} {xs : List Int} (h : Ints w (some ⟨b, o, none⟩) xs) {i : Nat} (hi : i < xs.length) :
    ∃ x, w.cell? ⟨b, o + i, none⟩ = some (.int .i64 x) ∧ Hid (xs[i]? = some x) := by
  obtain ⟨b', o', h1, h2⟩ := h i _ (List.getElem?_eq_getElem hi)
  simp only [Option.some.injEq, Addr.mk.injEq, and_true] at h1
  obtain ⟨rfl, rfl⟩ := h1
  exact ⟨_, h2, List.getElem?_eq_getElem hi⟩
theorem Ints.nil (w : World) (a : Option Addr) : Ints w a [] := by intro i x h; simp at h
theorem Ints.keep {w w' : World} {a : Option Addr} {xs : List Int} (h : Ints w a xs) (hk : ∀ b o v, w.cell? ⟨b, o, none⟩ = some v → (∃ o', a = some ⟨b, o', none⟩) → w'.cell? ⟨b, o, none⟩ = some v) : Ints w' a xs := by
  intro i x hx
  obtain ⟨b, o, h1, h2⟩ := h i x hx
  exact ⟨b, o, h1, hk _ _ _ h2 ⟨o, h1⟩⟩
theorem Ints.below {w w' : World} {a : Option Addr} {xs : List Int} (h : Ints w a xs) (hb : Below w.heap.size w w') : Ints w' a xs :=
  h.keep fun b o _ hv _ => (hb.cell (p := ⟨b, o, none⟩) (World.block_lt_of_cell? w _ hv)).trans hv
theorem Ints.belowAt {w w' : World} {a : Option Addr} {xs : List Int} {B : Nat} (h : Ints w a xs) (hb : Below B w w') (ha : ∀ p, a = some p → p.block < B) : Ints w' a xs :=
  h.keep fun b o _ hv ⟨o', ho⟩ => (hb.cell (p := ⟨b, o, none⟩) (ha ⟨b, o', none⟩ ho)).trans hv
theorem Ints.grown {w w' : World} {a : Option Addr} {xs : List Int} {row : Option Nat} (h : Ints w a xs) (hg : w.grownBy w' row) (hne : ∀ p, a = some p → some p.block ≠ row) : Ints w' a xs :=
  h.keep fun b _ _ hv ⟨o', ho⟩ => hg.cell hv (hne ⟨b, o', none⟩ ho)
theorem Ints.drewN {w : World} {a : Option Addr} {xs : List Int} (h : Ints w a xs) (q : Nat) : Ints (w.drewN q) a xs := h
theorem Ints.alloc {w : World} {a : Option Addr} {xs : List Int} (h : Ints w a xs) (o : Obj) : Ints (w.alloc o) a xs :=
  h.below ((Below.refl _ _).alloc (Nat.le_refl _) _)
theorem Ints.quiet {w w' : World} {a : Option Addr} {xs : List Int} (h : Ints w a xs) (hq : Quiet w w') : Ints w' a xs := by
  obtain ⟨q, rfl⟩ := hq; exact h
theorem Ints.take {w : World} {a : Option Addr} {xs : List Int} (h : Ints w a xs) (k : Nat) : Ints w a (xs.take k) := by
  intro i x hx
  rw [List.getElem?_take] at hx
  split at hx
  · exact h i x hx
  · cases hx
theorem Ints.drop {w : World} {b o : Nat} {xs : List Int} (h : Ints w (some ⟨b, o, none⟩) xs) (k : Nat) : Ints w (some ⟨b, o + k, none⟩) (xs.drop k) := by
  intro i x hx
  rw [List.getElem?_drop] at hx
  obtain ⟨b', o', h1, h2⟩ := h _ x hx
  simp only [Option.some.injEq, Addr.mk.injEq, and_true] at h1
  obtain ⟨rfl, rfl⟩ := h1
  exact ⟨b, o + k, rfl, by rw [Nat.add_assoc]; exact h2⟩

theorem infoInt : (Try.prog.info? 3).map (fun i => (i.zero, i.size, i.bytes)) = some (some (.int .i64 0), 1, 8) := by kernel_rfl

/-- The call owns the slice (a, n, c), which reads as xs; its block has a number from B on. -/
def OwnI (w : World) (B : Nat) (a : Option Addr) (n c : Nat) (xs : List Int) : Prop :=
  xs.length = n ∧ w.ownsRow B 3 1 (.slice a n c) n (xs.map (.int .i64))
theorem OwnI.ints {w : World} {B n c : Nat} {a : Option Addr} {xs : List Int} (h : OwnI w B a n c xs) : Ints w a xs := by
  intro i x hx
  have hi : i < n := by rw [← h.1]; exact (List.getElem?_eq_some_iff.1 hx).1
  rcases h.2.2 with ⟨h2, h3⟩ | ⟨g, cap, cur, h2, _⟩
  · omega
  · simp only [Value.slice.injEq] at h2
    obtain ⟨rfl, _, rfl⟩ := h2
    refine ⟨g, 0, rfl, ?_⟩
    rw [Nat.zero_add, h.2.cellAt i (by omega), List.getElem?_map, hx]; rfl
theorem OwnI.below {w w' : World} {B n c : Nat} {a : Option Addr} {xs : List Int} (h : OwnI w B a n c xs) (hb : Below w.heap.size w w') : OwnI w' B a n c xs := ⟨h.1, own_below' h.2 hb⟩
theorem OwnI.belowAt {w w' : World} {B C n c : Nat} {a : Option Addr} {xs : List Int} (h : OwnI w B a n c xs) (hb : Below C w w') (ha : ∀ p, a = some p → p.block < C) : OwnI w' B a n c xs :=
  ⟨h.1, own_below h.2 hb fun k hk => by cases a with | none => simp [Value.ownBlock] at hk | some p => simp [Value.ownBlock] at hk; subst hk; exact ha p rfl⟩
theorem OwnI.mono {w : World} {B B' n c : Nat} {a : Option Addr} {xs : List Int} (h : OwnI w B a n c xs) (hB : B' ≤ B) : OwnI w B' a n c xs := ⟨h.1, own_mono h.2 hB⟩
theorem OwnI.drewN {w : World} {B n c : Nat} {a : Option Addr} {xs : List Int} (h : OwnI w B a n c xs) (q : Nat) : OwnI (w.drewN q) B a n c xs := h
theorem OwnI.quiet {w w' : World} {B n c : Nat} {a : Option Addr} {xs : List Int} (h : OwnI w B a n c xs) (hq : Quiet w w') : OwnI w' B a n c xs := by
  obtain ⟨q, rfl⟩ := hq; exact h
theorem OwnI.nil (w : World) (B : Nat) : OwnI w B none 0 0 [] := ⟨rfl, World.ownsRow_nil _ _ _ _⟩
theorem OwnI.lo {w : World} {B n c : Nat} {a : Option Addr} {xs : List Int} (h : OwnI w B a n c xs) : ∀ p, a = some p → B ≤ p.block ∧ p.block < w.heap.size := by
  intro p hp; subst hp; exact h.2.lt p.block rfl
theorem OwnI.capOf {w : World} {B n c : Nat} {a : Option Addr} {xs : List Int} (h : OwnI w B a n c xs) : n ≤ c := by
  rcases h.2.2 with ⟨h2, h3⟩ | ⟨g, cap, cur, h2, _, _, h3, _⟩
  · simp only [Value.slice.injEq] at h2; omega
  · simp only [Value.slice.injEq] at h2; omega
theorem OwnI.cell {w : World} {B n c g : Nat} {xs : List Int} (h : OwnI w B (some ⟨g, 0, none⟩) n c xs) {j : Nat} (hj : j < n) : ∃ y, w.cell? ⟨g, j, none⟩ = some (.int .i64 y) ∧ Hid (xs[j]? = some y) := by
  obtain ⟨y, h1, h2⟩ := h.ints.cell (i := j) (by rw [h.1]; exact hj)
  exact ⟨y, by simpa using h1, h2⟩
theorem OwnI.nilOf {w : World} {B n c : Nat} {a : Option Addr} {xs : List Int} (h : OwnI w B a n c xs) : a = none → c = 0 := by
  intro e
  subst e
  rcases h.2.2 with ⟨h2, _⟩ | ⟨g, cap, cur, h2, _⟩
  · simp only [Value.slice.injEq] at h2; exact h2.2.2
  · simp only [Value.slice.injEq] at h2; exact absurd h2.1 (by simp)
/-- What an int slice, given back, is: the call's own, reading as xs. -/
def RetI (w : World) (xs : List Int) (e : Ending) (w' : World) : Prop :=
  ∃ a n c, e = .returned (.slice a n c) ∧ OwnI w' w.heap.size a n c xs ∧ Below w.heap.size w w'
theorem RetI.nil (w : World) : RetI w [] (.returned (.slice none 0 0)) w := ⟨_, _, _, rfl, OwnI.nil _ _, Below.refl _ _⟩
/-- .. with a bool beside it. -/
def RetIB (w : World) (xs : List Int) (ok : Bool) (e : Ending) (w' : World) : Prop :=
  ∃ a n c, e = .returned (.tuple #[.slice a n c, .bool ok]) ∧ OwnI w' w.heap.size a n c xs ∧ Below w.heap.size w w'
theorem RetI.after {w w1 w' : World} {xs : List Int} {e : Ending} (h : RetI w1 xs e w') (hb : Below w.heap.size w w1) : RetI w xs e w' := by
  obtain ⟨a, n, c, he, ho, hb'⟩ := h
  exact ⟨a, n, c, he, ho.mono hb.size, hb.trans (hb'.mono hb.size)⟩
/-- A call that gives back a plain value and may lay blocks. -/
def RetV (w : World) (v : Value) (e : Ending) (w' : World) : Prop := e = .returned v ∧ Below w.heap.size w w'

/-- 'append(out, y)' on the call's own slice of integers. -/
theorem wpList_appI {w : World} {ops : Array Oper} {rest : List Oper} {o : Oper} {act : Act} {Q : Exit → Act → World → Prop} (hgd : o.guard = none) (s x : Operand)
    (ho : o.op = .call { callee := .builtin .append, args := #[s, x], argTypes := #[28, 28] })
    (B : Nat) (a : Option Addr) (n c : Nat) (xs : List Int) (hs : act.eval s = .slice a n c) (hown : OwnI w B a n c xs)
    (y : Int) (hx : act.eval x = .slice (some ⟨w.heap.size, 0, none⟩) 1 1) (hn : n < 4194304) (hB : B ≤ w.heap.size)
    (h : ∀ a' c' w', OwnI w' B a' (n + 1) c' (xs ++ [y]) → Below B w w' → wpList Try.prog ops Q rest (act.put o.dst (.slice a' (n + 1) c')) w') :
    wpList Try.prog ops Q (o :: rest) act (w.alloc (.cells #[.int .i64 y] 3)) :=
  wpList_app1 hgd s x 28 ho B 3 _ 8 Try.underlying28 infoInt rfl a n c _ hs hown.2 _ rfl hx hn (by omega) hB
    fun a' c' w' h1 _ h3 => h a' c' w' ⟨by rw [List.length_append, hown.1]; rfl, by simpa using h1⟩ h3
theorem OwnI.lit0 (w : World) : OwnI (w.alloc (.cells #[] 3)) w.heap.size (some ⟨w.heap.size, 0, none⟩) 0 0 [] :=
  ⟨rfl, World.ownsRow_lit w #[] 0 (Nat.le_refl _) (Nat.zero_le _) rfl⟩
theorem below_alloc (w : World) (o : Obj) : Below w.heap.size w (w.alloc o) := (Below.refl _ _).alloc (Nat.le_refl _) _

/-- A store into an own slice. -/
theorem OwnI.set {w : World} {B n c g o : Nat} {xs : List Int} (h : OwnI w B (some ⟨g, o, none⟩) n c xs) (j : Nat) (x : Int) :
    o = 0 ∧ OwnI (w.setCell ⟨g, j, none⟩ (.int .i64 x)) B (some ⟨g, o, none⟩) n c (xs.set j x) ∧ w.grownBy (w.setCell ⟨g, j, none⟩ (.int .i64 x)) (some g) := by
  have ho : o = 0 := by
    rcases h.2.2 with ⟨h2, _⟩ | ⟨g', cap, cur, h2, _⟩
    · simp at h2
    · simp only [Value.slice.injEq, Option.some.injEq, Addr.mk.injEq, and_true] at h2; omega
  subst ho
  obtain ⟨h1, h2⟩ := h.2.stored j (.int .i64 x)
  exact ⟨rfl, ⟨by simpa using h.1, by simpa [List.map_set] using h1⟩, h2⟩
theorem OwnI.frozen {w : World} {B n c g o : Nat} {xs : List Int} (h : OwnI w B (some ⟨g, o, none⟩) n c xs) (j : Nat) : w.frozen? ⟨g, j, none⟩ = false := by
  have ho : o = 0 := by
    rcases h.2.2 with ⟨h2, _⟩ | ⟨g', cap, cur, h2, _⟩
    · simp at h2
    · simp only [Value.slice.injEq, Option.some.injEq, Addr.mk.injEq, and_true] at h2; omega
  subst ho
  exact h.2.frozenAt j
theorem OwnI.head {w : World} {B n c : Nat} {a : Option Addr} {xs : List Int} (h : OwnI w B a n c xs) (hn : 0 < n) : ∃ g, a = some ⟨g, 0, none⟩ ∧ B ≤ g ∧ g < w.heap.size := by
  rcases h.2.2 with ⟨_, h2⟩ | ⟨g, cap, cur, h2, hg, hh, _⟩
  · omega
  · simp only [Value.slice.injEq] at h2
    exact ⟨g, h2.1, hg, (Array.getElem?_eq_some_iff.1 hh).1⟩

/-- A slice of integers, as the contracts ask it. -/
def SlI (w : World) (a : Option Addr) (n c : Nat) (xs : List Int) : Prop := Ints w a xs ∧ xs.length = n ∧ n ≤ 2097152 ∧ n ≤ c ∧ (a = none → c = 0)
theorem SlI.below {w w' : World} {a : Option Addr} {n c : Nat} {xs : List Int} (h : SlI w a n c xs) (hb : Below w.heap.size w w') : SlI w' a n c xs := ⟨h.1.below hb, h.2⟩
theorem OwnI.sl {w : World} {B n c : Nat} {a : Option Addr} {xs : List Int} (h : OwnI w B a n c xs) (hn : n ≤ 2097152) : SlI w a n c xs := ⟨h.ints, h.1, hn, h.capOf, h.nilOf⟩
theorem OwnI.grown {w w' : World} {B n c : Nat} {a : Option Addr} {xs : List Int} {row : Option Nat} (h : OwnI w B a n c xs) (hg : w.grownBy w' row) (hne : (Value.slice a n c).ownBlock = none ∨ (Value.slice a n c).ownBlock ≠ row) : OwnI w' B a n c xs :=
  ⟨h.1, h.2.kept hg hne⟩

/-! ### writes within an interval of blocks -/
/-- Only blocks with a number from lo to hi - 1 may have been written; new ones may have come. -/
structure Out (lo hi : Nat) (w w' : World) : Prop where
  os : w'.os = w.os
  tape : w'.tape = w.tape
  output : w'.output = w.output
  size : w.heap.size ≤ w'.heap.size
  block : ∀ k, k < w.heap.size → (k < lo ∨ hi ≤ k) → w'.heap[k]? = w.heap[k]?
theorem Out.refl (lo hi : Nat) (w : World) : Out lo hi w w := ⟨rfl, rfl, rfl, Nat.le_refl _, fun _ _ _ => rfl⟩
theorem Out.trans {lo hi : Nat} {a b c : World} (h : Out lo hi a b) (k : Out lo hi b c) : Out lo hi a c :=
  ⟨k.os.trans h.os, k.tape.trans h.tape, k.output.trans h.output, Nat.le_trans h.size k.size, fun i hi hr => (k.block i (Nat.lt_of_lt_of_le hi h.size) hr).trans (h.block i hi hr)⟩
theorem Out.mono {lo hi lo' hi' : Nat} {a b : World} (h : Out lo hi a b) (h1 : lo' ≤ lo) (h2 : hi ≤ hi') : Out lo' hi' a b :=
  ⟨h.os, h.tape, h.output, h.size, fun k hk hr => h.block k hk (by omega)⟩
theorem Out.ofGrown {lo hi : Nat} {w w' : World} {row : Option Nat} (h : w.grownBy w' row) (hr : ∀ k, row = some k → lo ≤ k ∧ k < hi) : Out lo hi w w' :=
  ⟨h.os, h.tape, h.output, h.size, fun k hk hk' => h.block k hk (fun e => by have := hr k e.symm; omega)⟩
theorem Out.below {lo hi B : Nat} {w w' : World} (h : Out lo hi w w') (hB : B ≤ lo) (hs : B ≤ w.heap.size) : Below B w w' :=
  ⟨h.os, h.tape, h.output, h.size, fun k hk => h.block k (by omega) (.inl (by omega))⟩
theorem Below.out {lo hi : Nat} {w w' : World} (h : Below w.heap.size w w') : Out lo hi w w' :=
  ⟨h.os, h.tape, h.output, h.size, fun k hk _ => h.block k hk⟩

/-- An argument's slice: its cells lie in blocks below hi. -/
def ArgI (w : World) (hi : Nat) (a : Option Addr) (n c : Nat) (xs : List Int) : Prop := SlI w a n c xs ∧ ∀ p, a = some p → xs ≠ [] → p.block < hi
theorem SlI.arg {w : World} {a : Option Addr} {n c : Nat} {xs : List Int} (h : SlI w a n c xs) : ArgI w w.heap.size a n c xs := by
  refine ⟨h, fun p hp hne => ?_⟩
  subst hp
  obtain ⟨x, hx⟩ : ∃ x, xs[0]? = some x := by cases xs with | nil => exact absurd rfl hne | cons x xs => exact ⟨x, rfl⟩
  obtain ⟨b, o, h1, h2⟩ := h.1 0 x hx
  simp only [Option.some.injEq] at h1
  subst h1
  exact World.block_lt_of_cell? w _ h2
theorem Ints.outAt {w w' : World} {a : Option Addr} {xs : List Int} {lo hi : Nat} (h : Ints w a xs) (ho : Out lo hi w w') (ha : ∀ p, a = some p → xs ≠ [] → p.block < lo ∨ hi ≤ p.block) : Ints w' a xs := by
  intro i x hx
  obtain ⟨b, o, h1, h2⟩ := h i x hx
  have hlt : b < w.heap.size := World.block_lt_of_cell? w ⟨b, o + i, none⟩ h2
  have hne : xs ≠ [] := by intro e; subst e; simp at hx
  exact ⟨b, o, h1, (World.cell?_of_block (w := w) (ho.block b hlt (ha _ h1 hne))).trans h2⟩
theorem ArgI.below {w w' : World} {hi : Nat} {a : Option Addr} {n c : Nat} {xs : List Int} (h : ArgI w hi a n c xs) (hb : Below w.heap.size w w') : ArgI w' hi a n c xs := ⟨h.1.below hb, h.2⟩
theorem ArgI.out {w w' : World} {hi lo r : Nat} {a : Option Addr} {n c : Nat} {xs : List Int} (h : ArgI w hi a n c xs) (ho : Out lo r w w') (hd : hi ≤ lo) : ArgI w' hi a n c xs :=
  ⟨⟨h.1.1.outAt ho fun p hp hne => .inl (by have := h.2 p hp hne; omega), h.1.2⟩, h.2⟩

/-- An own slice whose block lies in an interval. -/
def OwnIn (w : World) (lo hi : Nat) (a : Option Addr) (n c : Nat) (xs : List Int) : Prop := OwnI w lo a n c xs ∧ ∀ p, a = some p → p.block < hi
theorem OwnI.ins {w : World} {B n c : Nat} {a : Option Addr} {xs : List Int} (h : OwnI w B a n c xs) : OwnIn w B w.heap.size a n c xs := ⟨h, fun p hp => (h.lo p hp).2⟩
theorem OwnIn.below {w w' : World} {lo hi n c : Nat} {a : Option Addr} {xs : List Int} (h : OwnIn w lo hi a n c xs) (hb : Below w.heap.size w w') : OwnIn w' lo hi a n c xs := ⟨h.1.below hb, h.2⟩
theorem OwnIn.out {w w' : World} {lo hi l r n c : Nat} {a : Option Addr} {xs : List Int} (h : OwnIn w lo hi a n c xs) (ho : Out l r w w') (hd : hi ≤ l ∨ r ≤ lo) : OwnIn w' lo hi a n c xs := by
  refine ⟨⟨h.1.1, h.1.2.1, ?_⟩, h.2⟩
  rcases h.1.2.2 with h2 | ⟨g, cap, cur, h2, hg, hh, rest⟩
  · exact .inl h2
  · have h3 := h.2 ⟨g, 0, none⟩ (by simp only [Value.slice.injEq] at h2; exact h2.1)
    simp only at h3
    have hlt : g < w.heap.size := (Array.getElem?_eq_some_iff.1 hh).1
    exact .inr ⟨g, cap, cur, h2, hg, (ho.block g hlt (by omega)).trans hh, rest⟩
theorem OwnIn.mono {w : World} {lo hi lo' hi' n c : Nat} {a : Option Addr} {xs : List Int} (h : OwnIn w lo hi a n c xs) (h1 : lo' ≤ lo) (h2 : hi ≤ hi') : OwnIn w lo' hi' a n c xs := ⟨h.1.mono h1, fun p hp => Nat.lt_of_lt_of_le (h.2 p hp) h2⟩
theorem OwnIn.sl {w : World} {lo hi n c : Nat} {a : Option Addr} {xs : List Int} (h : OwnIn w lo hi a n c xs) (hn : n ≤ 2097152) : SlI w a n c xs := h.1.sl hn
theorem OwnIn.row {w : World} {lo hi n c : Nat} {a : Option Addr} {xs : List Int} (h : OwnIn w lo hi a n c xs) : ∀ k, (Value.slice a n c).ownBlock = some k → lo ≤ k ∧ k < hi := by
  intro k hk
  cases a with
  | none => simp [Value.ownBlock] at hk
  | some p => simp [Value.ownBlock] at hk; subst hk; exact ⟨(h.1.lo p rfl).1, h.2 p rfl⟩
/-! ### append of a whole slice -/
theorem wpList_append_all {w : World} {ops : Array Oper} {rest : List Oper} {o : Oper} {act : Act} {Q : Exit → Act → World → Prop} (hgd : o.guard = none) (s x : Operand)
    (ho : o.op = .call { callee := .builtin .append, args := #[s, x], argTypes := #[28, 28] })
    (B : Nat) (a : Option Addr) (n c : Nat) (xs : List Int) (hs : act.eval s = .slice a n c) (hown : OwnI w B a n c xs)
    (p : Addr) (m d : Nat) (ys : List Int) (hx : act.eval x = .slice (some p) m d) (hy : SlI w (some p) m d ys) (hn : n + m < 4194304) (hB : B ≤ w.heap.size)
    (h : ∀ a' c' w', OwnI w' B a' (n + m) c' (xs ++ ys) → (a' = none → a = none ∧ m = 0) → w.grownBy w' (Value.slice a n c).ownBlock → Below B w w' → wpList Try.prog ops Q rest (act.put o.dst (.slice a' (n + m) c')) w') :
    wpList Try.prog ops Q (o :: rest) act w := by
  obtain ⟨i0, hi, hz0, hz1, hz2⟩ := info_parts infoInt
  refine wpList_append_own w hgd s x 28 ho B 3 i0 (.int .i64 0) 1 8 Try.underlying28 hi hz0 hz1 hz2 rfl (by decide) _ n _ hs hown.2 p m d (ys.map (.int .i64)) hx (by rw [List.length_map, hy.2.1, Nat.mul_one]) ?_ (ints_oneCell _ _) (by unfold maxLen; omega) (by omega) hB ?_
  · intro j u hu
    obtain ⟨v, hv, rfl⟩ : ∃ v, ys[j]? = some v ∧ u = .int .i64 v := by
      rw [List.getElem?_map] at hu
      cases hj : ys[j]? with
      | none => rw [hj] at hu; cases hu
      | some v => rw [hj] at hu; exact ⟨v, rfl, (Option.some.inj hu).symm⟩
    obtain ⟨b, o', h1, h2⟩ := hy.1 j v hv
    obtain rfl := Option.some.inj h1
    rw [Addr.add_lit]; exact h2
  · intro v' w' h1 h2 h3
    obtain ⟨a', c', rfl⟩ := own_slice h1
    refine h a' c' w' ⟨by rw [List.length_append, hown.1, hy.2.1], by rw [List.map_append]; exact h1⟩ ?_ h2 (grownBy_below h2 hB fun k hk => (hown.2.lt k hk).1)
    intro e
    subst e
    have hz : n + m = 0 ∧ c' = 0 := by
      rcases h1.2 with ⟨h4, h5⟩ | ⟨g, cap, cur, h4, _⟩
      · simp only [Value.slice.injEq] at h4; exact ⟨h5, h4.2.2⟩
      · simp only [Value.slice.injEq] at h4; exact absurd h4.1 (by simp)
    have h4 := h3.1 (by rw [hz.1, hz.2])
    simp only [Value.slice.injEq] at h4
    exact ⟨h4.1.1, h4.2⟩

theorem wpList_append_run {P : Program} {w w' : World} {ops : Array Oper} {rest : List Oper} {o : Oper} {act : Act} {Q : Exit → Act → World → Prop} (hgd : o.guard = none) (s x : Operand) (t t' : TypeId)
    (ho : o.op = .call { callee := .builtin .append, args := #[s, x], argTypes := #[t, t'] }) (vs vx v' : Value) (hs : act.eval s = vs) (hx : act.eval x = vx)
    (hr : (Builtin.append_ #[t, t'] o.type #[vs, vx]).run P w = .ok v' w') (h : wpList P ops Q rest (act.put o.dst v') w') : wpList P ops Q (o :: rest) act w := by
  refine wpList_plain hgd fun K hK => ?_
  unfold Oper.wp execOp
  simp only [ho, resolve, invoke, builtin, Sem.run_bind, Sem.run_pure, Result.andThen_ok, List.map_toArray, List.map_cons, List.map_nil, hs, hx, hr]
  exact hK _ _ h

theorem wpList_append_any {w : World} {ops : Array Oper} {rest : List Oper} {o : Oper} {act : Act} {Q : Exit → Act → World → Prop} (hgd : o.guard = none) (s x : Operand)
    (ho : o.op = .call { callee := .builtin .append, args := #[s, x], argTypes := #[28, 28] })
    (B : Nat) (a : Option Addr) (n c : Nat) (xs : List Int) (hs : act.eval s = .slice a n c) (hown : OwnI w B a n c xs)
    (p : Option Addr) (m d : Nat) (ys : List Int) (hx : act.eval x = .slice p m d) (hy : SlI w p m d ys) (hn : n + m < 4194304) (hB : B ≤ w.heap.size)
    (h : ∀ a' c' w', OwnI w' B a' (n + m) c' (xs ++ ys) → w.grownBy w' (Value.slice a n c).ownBlock → Below B w w' → wpList Try.prog ops Q rest (act.put o.dst (.slice a' (n + m) c')) w') :
    wpList Try.prog ops Q (o :: rest) act w := by
  cases p with
  | some p => exact wpList_append_all hgd s x ho B a n c xs hs hown p m d ys hx hy hn hB fun a' c' w' h1 _ h2 h3 => h a' c' w' h1 h2 h3
  | none =>
    obtain rfl : ys = [] := by
      cases ys with
      | nil => rfl
      | cons y ys => obtain ⟨b, o', h1, _⟩ := hy.1 0 y rfl; cases h1
    obtain rfl : m = 0 := hy.2.1.symm
    obtain rfl : d = 0 := hy.2.2.2.2 rfl
    obtain ⟨i0, hi, hz0, hz1, hz2⟩ := info_parts infoInt
    refine wpList_append_run hgd s x _ _ ho _ _ _ hs hx (run_append_owned_none (P := Try.prog) w B 28 o.type 3 i0 1 Try.underlying28 hi _ n _ hown.2) ?_
    have := h a c w (by simpa using hown) (World.grownBy.refl _ _) (Below.refl _ _)
    simpa using this

theorem RetV.after {w w1 w' : World} {v : Value} {e : Ending} (h : RetV w1 v e w') (hb : Below w.heap.size w w1) : RetV w v e w' := ⟨h.1, hb.trans (h.2.mono hb.size)⟩
theorem retV_same {w w' : World} {v : Value} {e : Ending} (h : e = .returned v ∧ w' = w) : RetV w v e w' := by obtain ⟨h1, rfl⟩ := h; exact ⟨h1, Below.refl _ _⟩
theorem retV_quiet {w w' : World} {v : Value} {e : Ending} (h : e = .returned v ∧ Quiet w w') : RetV w v e w' := ⟨h.1, h.2.below _⟩

/-! ### lists -/
theorem take_snoc {α : Type} {xs : List α} {k : Nat} {x : α} (h : xs[k]? = some x) : xs.take (k + 1) = xs.take k ++ [x] := by
  rw [List.take_add_one, h]; rfl
theorem getD_of {α : Type} {xs : List α} {k : Nat} {x d : α} (h : xs[k]? = some x) : xs.getD k d = x := by simp [List.getD, h]
end Go.Proofs.Ytmojniiimondfaa
