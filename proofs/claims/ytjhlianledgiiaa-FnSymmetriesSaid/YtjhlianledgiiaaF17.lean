/- The walks of the eight symmetries, of the program and of the reference; SymmetryOf. No condition. -/
import Derived.Test.YtjhlianledgiiaaF05
namespace Go.Proofs.Ytjhlianledgiiaa
open Go.RowKit

/-- One of eight symmetries. -/
def symB (a b c : Bool) (xs : List Int) : List Int :=
  let o := if a then inv xs else xs
  let o := if b then o.reverse else o
  if c then compl o else o
def symL (k : Nat) (xs : List Int) : List Int := symB (k % 2 == 1) (k / 2 % 2 == 1) (decide (4 ≤ k)) xs
theorem length_symB (a b c : Bool) (xs : List Int) : (symB a b c xs).length = xs.length := by
  cases a <;> cases b <;> cases c <;> simp [symB, length_inv, length_compl]
theorem length_symL (k : Nat) (xs : List Int) : (symL k xs).length = xs.length := length_symB _ _ _ _
theorem upto_set {n : Nat} {xs : List Int} {i : Nat} {x : Int} (h : Upto n xs) (h1 : 0 ≤ x) (h2 : x ≤ (n : Int)) : Upto n (xs.set i x) := by
  intro y hy
  rcases List.mem_or_eq_of_mem_set hy with hy | hy
  · exact h y hy
  · subst hy; exact ⟨h1, h2⟩
theorem upto_invTo (xs : List Int) (k : Nat) (hk : k ≤ xs.length) : Upto xs.length (invTo xs k) := by
  induction k with
  | zero => intro x hx; simp [invTo] at hx; omega
  | succ k ih => exact upto_set (ih (by omega)) (by omega) (by omega)
theorem upto_inv (xs : List Int) : Upto (inv xs).length (inv xs) := by
  rw [length_inv]; exact upto_invTo xs _ (Nat.le_refl _)
theorem upto_rev {xs : List Int} (h : Upto xs.length xs) : Upto xs.reverse.length xs.reverse := by
  rw [List.length_reverse]; exact fun x hx => h x (List.mem_reverse.1 hx)

set_option maxHeartbeats 2000000 in
theorem symmetry_any (a : Option Addr) (n c k : Nat) (xs : List Int) (w : World) (h : SlI w a n c xs) (hp : Hid (IsPermL xs)) (hk : k ≤ 7) :
    Calls Try.prog 85 #[.slice a n c, .int .i64 k] w (RetI w (symL k xs)) := by
  have HN : Hid (xs.length = n) := h.2.1
  have hn : n ≤ 2097152 := h.2.2.1
  obtain rfl | rfl | rfl | rfl | rfl | rfl | rfl | rfl : k = 0 ∨ k = 1 ∨ k = 2 ∨ k = 3 ∨ k = 4 ∨ k = 5 ∨ k = 6 ∨ k = 7 := by omega
  · have HE : Hid (symL 0 xs = symB false false false xs) := rfl
    go_enter Try.func85, Try.ntmps85
    go_wp2_with fail
    refine (slicesClone_any a n c xs _ h).mono ?_
    rintro e w1 ⟨a0, n0, c0, rfl, ho0, hb1⟩
    have hn0 : n0 ≤ 2097152 := by have h1 := ho0.1; have h2 := HN.out; omega
    go_wp2
    go_ret
    exact ⟨_, _, _, rfl, by rw [HE.out]; exact ho0, hb1⟩
  · have HE : Hid (symL 1 xs = symB true false false xs) := rfl
    go_enter Try.func85, Try.ntmps85
    go_wp2_with fail
    refine (slicesClone_any a n c xs _ h).mono ?_
    rintro e w1 ⟨a0, n0, c0, rfl, ho0, hb1⟩
    have hn0 : n0 ≤ 2097152 := by have h1 := ho0.1; have h2 := HN.out; omega
    go_wp2_with fail
    refine (inverse_any a0 n0 c0 _ _ (ho0.sl (by omega)) hp).mono ?_
    rintro e w2 ⟨a1, n1, c1, rfl, ho1', hb2'⟩
    have hb2 : Below w.heap.size w w2 := hb1.trans (hb2'.mono hb1.size)
    have ho1 := ho1'.mono hb1.size
    have hn1 : n1 ≤ 2097152 := by have h1 := ho1.1; have h2 := HN.out; simp only [length_inv, length_compl, List.length_reverse] at h1; omega
    go_wp2
    go_ret
    exact ⟨_, _, _, rfl, by rw [HE.out]; exact ho1, hb2⟩
  · have HE : Hid (symL 2 xs = symB false true false xs) := rfl
    go_enter Try.func85, Try.ntmps85
    go_wp2_with fail
    refine (slicesClone_any a n c xs _ h).mono ?_
    rintro e w1 ⟨a0, n0, c0, rfl, ho0, hb1⟩
    have hn0 : n0 ≤ 2097152 := by have h1 := ho0.1; have h2 := HN.out; omega
    go_wp2_with fail
    refine (reverse_any a0 n0 c0 _ _ (ho0.sl (by omega))).mono ?_
    rintro e w2 ⟨a1, n1, c1, rfl, ho1', hb2'⟩
    have hb2 : Below w.heap.size w w2 := hb1.trans (hb2'.mono hb1.size)
    have ho1 := ho1'.mono hb1.size
    have hn1 : n1 ≤ 2097152 := by have h1 := ho1.1; have h2 := HN.out; simp only [length_inv, length_compl, List.length_reverse] at h1; omega
    go_wp2
    go_ret
    exact ⟨_, _, _, rfl, by rw [HE.out]; exact ho1, hb2⟩
  · have HE : Hid (symL 3 xs = symB true true false xs) := rfl
    go_enter Try.func85, Try.ntmps85
    go_wp2_with fail
    refine (slicesClone_any a n c xs _ h).mono ?_
    rintro e w1 ⟨a0, n0, c0, rfl, ho0, hb1⟩
    have hn0 : n0 ≤ 2097152 := by have h1 := ho0.1; have h2 := HN.out; omega
    go_wp2_with fail
    refine (inverse_any a0 n0 c0 _ _ (ho0.sl (by omega)) hp).mono ?_
    rintro e w2 ⟨a1, n1, c1, rfl, ho1', hb2'⟩
    have hb2 : Below w.heap.size w w2 := hb1.trans (hb2'.mono hb1.size)
    have ho1 := ho1'.mono hb1.size
    have hn1 : n1 ≤ 2097152 := by have h1 := ho1.1; have h2 := HN.out; simp only [length_inv, length_compl, List.length_reverse] at h1; omega
    go_wp2_with fail
    refine (reverse_any a1 n1 c1 _ _ (ho1.sl (by omega))).mono ?_
    rintro e w3 ⟨a2, n2, c2, rfl, ho2', hb3'⟩
    have hb3 : Below w.heap.size w w3 := hb2.trans (hb3'.mono hb2.size)
    have ho2 := ho2'.mono hb2.size
    have hn2 : n2 ≤ 2097152 := by have h1 := ho2.1; have h2 := HN.out; simp only [length_inv, length_compl, List.length_reverse] at h1; omega
    go_wp2
    go_ret
    exact ⟨_, _, _, rfl, by rw [HE.out]; exact ho2, hb3⟩
  · have HE : Hid (symL 4 xs = symB false false true xs) := rfl
    go_enter Try.func85, Try.ntmps85
    go_wp2_with fail
    refine (slicesClone_any a n c xs _ h).mono ?_
    rintro e w1 ⟨a0, n0, c0, rfl, ho0, hb1⟩
    have hn0 : n0 ≤ 2097152 := by have h1 := ho0.1; have h2 := HN.out; omega
    go_wp2_with fail
    refine (complement_any a0 n0 c0 _ _ (ho0.sl (by omega)) hp.out.upto).mono ?_
    rintro e w2 ⟨a1, n1, c1, rfl, ho1', hb2'⟩
    have hb2 : Below w.heap.size w w2 := hb1.trans (hb2'.mono hb1.size)
    have ho1 := ho1'.mono hb1.size
    have hn1 : n1 ≤ 2097152 := by have h1 := ho1.1; have h2 := HN.out; simp only [length_inv, length_compl, List.length_reverse] at h1; omega
    go_wp2
    go_ret
    exact ⟨_, _, _, rfl, by rw [HE.out]; exact ho1, hb2⟩
  · have HE : Hid (symL 5 xs = symB true false true xs) := rfl
    go_enter Try.func85, Try.ntmps85
    go_wp2_with fail
    refine (slicesClone_any a n c xs _ h).mono ?_
    rintro e w1 ⟨a0, n0, c0, rfl, ho0, hb1⟩
    have hn0 : n0 ≤ 2097152 := by have h1 := ho0.1; have h2 := HN.out; omega
    go_wp2_with fail
    refine (inverse_any a0 n0 c0 _ _ (ho0.sl (by omega)) hp).mono ?_
    rintro e w2 ⟨a1, n1, c1, rfl, ho1', hb2'⟩
    have hb2 : Below w.heap.size w w2 := hb1.trans (hb2'.mono hb1.size)
    have ho1 := ho1'.mono hb1.size
    have hn1 : n1 ≤ 2097152 := by have h1 := ho1.1; have h2 := HN.out; simp only [length_inv, length_compl, List.length_reverse] at h1; omega
    go_wp2_with fail
    refine (complement_any a1 n1 c1 _ _ (ho1.sl (by omega)) (upto_inv (xs))).mono ?_
    rintro e w3 ⟨a2, n2, c2, rfl, ho2', hb3'⟩
    have hb3 : Below w.heap.size w w3 := hb2.trans (hb3'.mono hb2.size)
    have ho2 := ho2'.mono hb2.size
    have hn2 : n2 ≤ 2097152 := by have h1 := ho2.1; have h2 := HN.out; simp only [length_inv, length_compl, List.length_reverse] at h1; omega
    go_wp2
    go_ret
    exact ⟨_, _, _, rfl, by rw [HE.out]; exact ho2, hb3⟩
  · have HE : Hid (symL 6 xs = symB false true true xs) := rfl
    go_enter Try.func85, Try.ntmps85
    go_wp2_with fail
    refine (slicesClone_any a n c xs _ h).mono ?_
    rintro e w1 ⟨a0, n0, c0, rfl, ho0, hb1⟩
    have hn0 : n0 ≤ 2097152 := by have h1 := ho0.1; have h2 := HN.out; omega
    go_wp2_with fail
    refine (reverse_any a0 n0 c0 _ _ (ho0.sl (by omega))).mono ?_
    rintro e w2 ⟨a1, n1, c1, rfl, ho1', hb2'⟩
    have hb2 : Below w.heap.size w w2 := hb1.trans (hb2'.mono hb1.size)
    have ho1 := ho1'.mono hb1.size
    have hn1 : n1 ≤ 2097152 := by have h1 := ho1.1; have h2 := HN.out; simp only [length_inv, length_compl, List.length_reverse] at h1; omega
    go_wp2_with fail
    refine (complement_any a1 n1 c1 _ _ (ho1.sl (by omega)) (upto_rev hp.out.upto)).mono ?_
    rintro e w3 ⟨a2, n2, c2, rfl, ho2', hb3'⟩
    have hb3 : Below w.heap.size w w3 := hb2.trans (hb3'.mono hb2.size)
    have ho2 := ho2'.mono hb2.size
    have hn2 : n2 ≤ 2097152 := by have h1 := ho2.1; have h2 := HN.out; simp only [length_inv, length_compl, List.length_reverse] at h1; omega
    go_wp2
    go_ret
    exact ⟨_, _, _, rfl, by rw [HE.out]; exact ho2, hb3⟩
  · have HE : Hid (symL 7 xs = symB true true true xs) := rfl
    go_enter Try.func85, Try.ntmps85
    go_wp2_with fail
    refine (slicesClone_any a n c xs _ h).mono ?_
    rintro e w1 ⟨a0, n0, c0, rfl, ho0, hb1⟩
    have hn0 : n0 ≤ 2097152 := by have h1 := ho0.1; have h2 := HN.out; omega
    go_wp2_with fail
    refine (inverse_any a0 n0 c0 _ _ (ho0.sl (by omega)) hp).mono ?_
    rintro e w2 ⟨a1, n1, c1, rfl, ho1', hb2'⟩
    have hb2 : Below w.heap.size w w2 := hb1.trans (hb2'.mono hb1.size)
    have ho1 := ho1'.mono hb1.size
    have hn1 : n1 ≤ 2097152 := by have h1 := ho1.1; have h2 := HN.out; simp only [length_inv, length_compl, List.length_reverse] at h1; omega
    go_wp2_with fail
    refine (reverse_any a1 n1 c1 _ _ (ho1.sl (by omega))).mono ?_
    rintro e w3 ⟨a2, n2, c2, rfl, ho2', hb3'⟩
    have hb3 : Below w.heap.size w w3 := hb2.trans (hb3'.mono hb2.size)
    have ho2 := ho2'.mono hb2.size
    have hn2 : n2 ≤ 2097152 := by have h1 := ho2.1; have h2 := HN.out; simp only [length_inv, length_compl, List.length_reverse] at h1; omega
    go_wp2_with fail
    refine (complement_any a2 n2 c2 _ _ (ho2.sl (by omega)) (upto_rev (upto_inv (xs)))).mono ?_
    rintro e w4 ⟨a3, n3, c3, rfl, ho3', hb4'⟩
    have hb4 : Below w.heap.size w w4 := hb3.trans (hb4'.mono hb3.size)
    have ho3 := ho3'.mono hb3.size
    have hn3 : n3 ≤ 2097152 := by have h1 := ho3.1; have h2 := HN.out; simp only [length_inv, length_compl, List.length_reverse] at h1; omega
    go_wp2
    go_ret
    exact ⟨_, _, _, rfl, by rw [HE.out]; exact ho3, hb4⟩

set_option maxHeartbeats 2000000 in
theorem l3Symmetry_any (a : Option Addr) (n c k : Nat) (xs : List Int) (w : World) (h : SlI w a n c xs) (hp : Hid (IsPermL xs)) (hk : k ≤ 7) :
    Calls Try.prog 86 #[.slice a n c, .int .i64 k] w (RetI w (symL k xs)) := by
  have HN : Hid (xs.length = n) := h.2.1
  have hn : n ≤ 2097152 := h.2.2.1
  obtain rfl | rfl | rfl | rfl | rfl | rfl | rfl | rfl : k = 0 ∨ k = 1 ∨ k = 2 ∨ k = 3 ∨ k = 4 ∨ k = 5 ∨ k = 6 ∨ k = 7 := by omega
  · have HE : Hid (symL 0 xs = symB false false false xs) := rfl
    go_enter Try.func86, Try.ntmps86
    have h0 := h.below (below_alloc w (.cells #[] 3))
    go_wp2_with (at_builtin; refine wpList_append_any rfl _ _ rfl w.heap.size _ _ _ _ rfl (OwnI.lit0 w) _ _ _ _ rfl h0 (by omega) (by simp) ?_)
    intro a0 c0 w1 g0 _ b1
    have hb1 := (below_alloc w (.cells #[] 3)).trans b1
    obtain ⟨n0, ho0⟩ : ∃ n0, OwnI w1 w.heap.size a0 n0 c0 xs := ⟨_, by simpa using g0⟩
    obtain rfl : n = n0 := by have h1 := ho0.1; have h2 := HN.out; omega
    clear g0 b1 h0
    go_wp2
    go_ret
    exact ⟨_, _, _, rfl, by rw [HE.out]; exact ho0, hb1⟩
  · have HE : Hid (symL 1 xs = symB true false false xs) := rfl
    go_enter Try.func86, Try.ntmps86
    have h0 := h.below (below_alloc w (.cells #[] 3))
    go_wp2_with (at_builtin; refine wpList_append_any rfl _ _ rfl w.heap.size _ _ _ _ rfl (OwnI.lit0 w) _ _ _ _ rfl h0 (by omega) (by simp) ?_)
    intro a0 c0 w1 g0 _ b1
    have hb1 := (below_alloc w (.cells #[] 3)).trans b1
    obtain ⟨n0, ho0⟩ : ∃ n0, OwnI w1 w.heap.size a0 n0 c0 xs := ⟨_, by simpa using g0⟩
    obtain rfl : n = n0 := by have h1 := ho0.1; have h2 := HN.out; omega
    clear g0 b1 h0
    go_wp2_with fail
    refine (l2Inverse_any a0 n c0 _ _ (ho0.sl (by omega)) hp).mono ?_
    rintro e w2 ⟨a1, n1, c1, rfl, ho1', hb2'⟩
    have hb2 : Below w.heap.size w w2 := hb1.trans (hb2'.mono hb1.size)
    have ho1 := ho1'.mono hb1.size
    have hn1 : n1 ≤ 2097152 := by have h1 := ho1.1; have h2 := HN.out; simp only [length_inv, length_compl, List.length_reverse] at h1; omega
    go_wp2
    go_ret
    exact ⟨_, _, _, rfl, by rw [HE.out]; exact ho1, hb2⟩
  · have HE : Hid (symL 2 xs = symB false true false xs) := rfl
    go_enter Try.func86, Try.ntmps86
    have h0 := h.below (below_alloc w (.cells #[] 3))
    go_wp2_with (at_builtin; refine wpList_append_any rfl _ _ rfl w.heap.size _ _ _ _ rfl (OwnI.lit0 w) _ _ _ _ rfl h0 (by omega) (by simp) ?_)
    intro a0 c0 w1 g0 _ b1
    have hb1 := (below_alloc w (.cells #[] 3)).trans b1
    obtain ⟨n0, ho0⟩ : ∃ n0, OwnI w1 w.heap.size a0 n0 c0 xs := ⟨_, by simpa using g0⟩
    obtain rfl : n = n0 := by have h1 := ho0.1; have h2 := HN.out; omega
    clear g0 b1 h0
    go_wp2_with fail
    refine (l3Reverse_any a0 n c0 _ _ (ho0.sl (by omega))).mono ?_
    rintro e w2 ⟨a1, n1, c1, rfl, ho1', hb2'⟩
    have hb2 : Below w.heap.size w w2 := hb1.trans (hb2'.mono hb1.size)
    have ho1 := ho1'.mono hb1.size
    have hn1 : n1 ≤ 2097152 := by have h1 := ho1.1; have h2 := HN.out; simp only [length_inv, length_compl, List.length_reverse] at h1; omega
    go_wp2
    go_ret
    exact ⟨_, _, _, rfl, by rw [HE.out]; exact ho1, hb2⟩
  · have HE : Hid (symL 3 xs = symB true true false xs) := rfl
    go_enter Try.func86, Try.ntmps86
    have h0 := h.below (below_alloc w (.cells #[] 3))
    go_wp2_with (at_builtin; refine wpList_append_any rfl _ _ rfl w.heap.size _ _ _ _ rfl (OwnI.lit0 w) _ _ _ _ rfl h0 (by omega) (by simp) ?_)
    intro a0 c0 w1 g0 _ b1
    have hb1 := (below_alloc w (.cells #[] 3)).trans b1
    obtain ⟨n0, ho0⟩ : ∃ n0, OwnI w1 w.heap.size a0 n0 c0 xs := ⟨_, by simpa using g0⟩
    obtain rfl : n = n0 := by have h1 := ho0.1; have h2 := HN.out; omega
    clear g0 b1 h0
    go_wp2_with fail
    refine (l2Inverse_any a0 n c0 _ _ (ho0.sl (by omega)) hp).mono ?_
    rintro e w2 ⟨a1, n1, c1, rfl, ho1', hb2'⟩
    have hb2 : Below w.heap.size w w2 := hb1.trans (hb2'.mono hb1.size)
    have ho1 := ho1'.mono hb1.size
    have hn1 : n1 ≤ 2097152 := by have h1 := ho1.1; have h2 := HN.out; simp only [length_inv, length_compl, List.length_reverse] at h1; omega
    go_wp2_with fail
    refine (l3Reverse_any a1 n1 c1 _ _ (ho1.sl (by omega))).mono ?_
    rintro e w3 ⟨a2, n2, c2, rfl, ho2', hb3'⟩
    have hb3 : Below w.heap.size w w3 := hb2.trans (hb3'.mono hb2.size)
    have ho2 := ho2'.mono hb2.size
    have hn2 : n2 ≤ 2097152 := by have h1 := ho2.1; have h2 := HN.out; simp only [length_inv, length_compl, List.length_reverse] at h1; omega
    go_wp2
    go_ret
    exact ⟨_, _, _, rfl, by rw [HE.out]; exact ho2, hb3⟩
  · have HE : Hid (symL 4 xs = symB false false true xs) := rfl
    go_enter Try.func86, Try.ntmps86
    have h0 := h.below (below_alloc w (.cells #[] 3))
    go_wp2_with (at_builtin; refine wpList_append_any rfl _ _ rfl w.heap.size _ _ _ _ rfl (OwnI.lit0 w) _ _ _ _ rfl h0 (by omega) (by simp) ?_)
    intro a0 c0 w1 g0 _ b1
    have hb1 := (below_alloc w (.cells #[] 3)).trans b1
    obtain ⟨n0, ho0⟩ : ∃ n0, OwnI w1 w.heap.size a0 n0 c0 xs := ⟨_, by simpa using g0⟩
    obtain rfl : n = n0 := by have h1 := ho0.1; have h2 := HN.out; omega
    clear g0 b1 h0
    go_wp2_with fail
    refine (l3Complement_any a0 n c0 _ _ (ho0.sl (by omega)) hp.out.upto).mono ?_
    rintro e w2 ⟨a1, n1, c1, rfl, ho1', hb2'⟩
    have hb2 : Below w.heap.size w w2 := hb1.trans (hb2'.mono hb1.size)
    have ho1 := ho1'.mono hb1.size
    have hn1 : n1 ≤ 2097152 := by have h1 := ho1.1; have h2 := HN.out; simp only [length_inv, length_compl, List.length_reverse] at h1; omega
    go_wp2
    go_ret
    exact ⟨_, _, _, rfl, by rw [HE.out]; exact ho1, hb2⟩
  · have HE : Hid (symL 5 xs = symB true false true xs) := rfl
    go_enter Try.func86, Try.ntmps86
    have h0 := h.below (below_alloc w (.cells #[] 3))
    go_wp2_with (at_builtin; refine wpList_append_any rfl _ _ rfl w.heap.size _ _ _ _ rfl (OwnI.lit0 w) _ _ _ _ rfl h0 (by omega) (by simp) ?_)
    intro a0 c0 w1 g0 _ b1
    have hb1 := (below_alloc w (.cells #[] 3)).trans b1
    obtain ⟨n0, ho0⟩ : ∃ n0, OwnI w1 w.heap.size a0 n0 c0 xs := ⟨_, by simpa using g0⟩
    obtain rfl : n = n0 := by have h1 := ho0.1; have h2 := HN.out; omega
    clear g0 b1 h0
    go_wp2_with fail
    refine (l2Inverse_any a0 n c0 _ _ (ho0.sl (by omega)) hp).mono ?_
    rintro e w2 ⟨a1, n1, c1, rfl, ho1', hb2'⟩
    have hb2 : Below w.heap.size w w2 := hb1.trans (hb2'.mono hb1.size)
    have ho1 := ho1'.mono hb1.size
    have hn1 : n1 ≤ 2097152 := by have h1 := ho1.1; have h2 := HN.out; simp only [length_inv, length_compl, List.length_reverse] at h1; omega
    go_wp2_with fail
    refine (l3Complement_any a1 n1 c1 _ _ (ho1.sl (by omega)) (upto_inv (xs))).mono ?_
    rintro e w3 ⟨a2, n2, c2, rfl, ho2', hb3'⟩
    have hb3 : Below w.heap.size w w3 := hb2.trans (hb3'.mono hb2.size)
    have ho2 := ho2'.mono hb2.size
    have hn2 : n2 ≤ 2097152 := by have h1 := ho2.1; have h2 := HN.out; simp only [length_inv, length_compl, List.length_reverse] at h1; omega
    go_wp2
    go_ret
    exact ⟨_, _, _, rfl, by rw [HE.out]; exact ho2, hb3⟩
  · have HE : Hid (symL 6 xs = symB false true true xs) := rfl
    go_enter Try.func86, Try.ntmps86
    have h0 := h.below (below_alloc w (.cells #[] 3))
    go_wp2_with (at_builtin; refine wpList_append_any rfl _ _ rfl w.heap.size _ _ _ _ rfl (OwnI.lit0 w) _ _ _ _ rfl h0 (by omega) (by simp) ?_)
    intro a0 c0 w1 g0 _ b1
    have hb1 := (below_alloc w (.cells #[] 3)).trans b1
    obtain ⟨n0, ho0⟩ : ∃ n0, OwnI w1 w.heap.size a0 n0 c0 xs := ⟨_, by simpa using g0⟩
    obtain rfl : n = n0 := by have h1 := ho0.1; have h2 := HN.out; omega
    clear g0 b1 h0
    go_wp2_with fail
    refine (l3Reverse_any a0 n c0 _ _ (ho0.sl (by omega))).mono ?_
    rintro e w2 ⟨a1, n1, c1, rfl, ho1', hb2'⟩
    have hb2 : Below w.heap.size w w2 := hb1.trans (hb2'.mono hb1.size)
    have ho1 := ho1'.mono hb1.size
    have hn1 : n1 ≤ 2097152 := by have h1 := ho1.1; have h2 := HN.out; simp only [length_inv, length_compl, List.length_reverse] at h1; omega
    go_wp2_with fail
    refine (l3Complement_any a1 n1 c1 _ _ (ho1.sl (by omega)) (upto_rev hp.out.upto)).mono ?_
    rintro e w3 ⟨a2, n2, c2, rfl, ho2', hb3'⟩
    have hb3 : Below w.heap.size w w3 := hb2.trans (hb3'.mono hb2.size)
    have ho2 := ho2'.mono hb2.size
    have hn2 : n2 ≤ 2097152 := by have h1 := ho2.1; have h2 := HN.out; simp only [length_inv, length_compl, List.length_reverse] at h1; omega
    go_wp2
    go_ret
    exact ⟨_, _, _, rfl, by rw [HE.out]; exact ho2, hb3⟩
  · have HE : Hid (symL 7 xs = symB true true true xs) := rfl
    go_enter Try.func86, Try.ntmps86
    have h0 := h.below (below_alloc w (.cells #[] 3))
    go_wp2_with (at_builtin; refine wpList_append_any rfl _ _ rfl w.heap.size _ _ _ _ rfl (OwnI.lit0 w) _ _ _ _ rfl h0 (by omega) (by simp) ?_)
    intro a0 c0 w1 g0 _ b1
    have hb1 := (below_alloc w (.cells #[] 3)).trans b1
    obtain ⟨n0, ho0⟩ : ∃ n0, OwnI w1 w.heap.size a0 n0 c0 xs := ⟨_, by simpa using g0⟩
    obtain rfl : n = n0 := by have h1 := ho0.1; have h2 := HN.out; omega
    clear g0 b1 h0
    go_wp2_with fail
    refine (l2Inverse_any a0 n c0 _ _ (ho0.sl (by omega)) hp).mono ?_
    rintro e w2 ⟨a1, n1, c1, rfl, ho1', hb2'⟩
    have hb2 : Below w.heap.size w w2 := hb1.trans (hb2'.mono hb1.size)
    have ho1 := ho1'.mono hb1.size
    have hn1 : n1 ≤ 2097152 := by have h1 := ho1.1; have h2 := HN.out; simp only [length_inv, length_compl, List.length_reverse] at h1; omega
    go_wp2_with fail
    refine (l3Reverse_any a1 n1 c1 _ _ (ho1.sl (by omega))).mono ?_
    rintro e w3 ⟨a2, n2, c2, rfl, ho2', hb3'⟩
    have hb3 : Below w.heap.size w w3 := hb2.trans (hb3'.mono hb2.size)
    have ho2 := ho2'.mono hb2.size
    have hn2 : n2 ≤ 2097152 := by have h1 := ho2.1; have h2 := HN.out; simp only [length_inv, length_compl, List.length_reverse] at h1; omega
    go_wp2_with fail
    refine (l3Complement_any a2 n2 c2 _ _ (ho2.sl (by omega)) (upto_rev (upto_inv (xs)))).mono ?_
    rintro e w4 ⟨a3, n3, c3, rfl, ho3', hb4'⟩
    have hb4 : Below w.heap.size w w4 := hb3.trans (hb4'.mono hb3.size)
    have ho3 := ho3'.mono hb3.size
    have hn3 : n3 ≤ 2097152 := by have h1 := ho3.1; have h2 := HN.out; simp only [length_inv, length_compl, List.length_reverse] at h1; omega
    go_wp2
    go_ret
    exact ⟨_, _, _, rfl, by rw [HE.out]; exact ho3, hb4⟩

/-- SymmetryOf -/
def SymOk (xs : List Int) (k : Int) : Prop := Perm8 xs ∧ 0 ≤ k ∧ k ≤ 7
instance (xs : List Int) (k : Int) : Decidable (SymOk xs k) := inferInstanceAs (Decidable (_ ∧ _))
def symP (xs : List Int) (k : Int) : List Int := if SymOk xs k then symL k.toNat xs else []
theorem length_symP (xs : List Int) (k : Int) : (symP xs k).length ≤ 8 := by
  unfold symP; split
  · rename_i h; rw [length_symL]; exact h.1.1
  · simp

set_option maxHeartbeats 1000000 in
theorem impl_SymmetryOf (a : Option Addr) (n c : Nat) (xs : List Int) (k : Int) (w : World) (h : SlI w a n c xs) (_hk : (Lit.int .i64 k).wf = true) :
    Calls Try.prog 25 #[.slice a n c, .int .i64 k] w (RetIB w (symP xs k) (decide (SymOk xs k))) := by
  have hI := impl_IsPerm a n c xs w h
  by_cases hp : Perm8 xs
  · rw [decide_eq_true hp] at hI
    by_cases hr : 0 ≤ k ∧ k ≤ 7
    · have hok : SymOk xs k := ⟨hp, hr⟩
      have e : symP xs k = symL k.toNat xs := if_pos hok
      have HP : Hid (IsPermL xs) := hp.2
      obtain ⟨m, rfl⟩ : ∃ m : Nat, k = (m : Int) := ⟨k.toNat, by omega⟩
      have hm : m ≤ 7 := by omega
      rw [e, decide_eq_true hok, Int.toNat_natCast]
      clear hok e hp hr
      have hg : ¬ ((7 : Int) < (m : Int)) := by omega
      go_enter Try.func25, Try.ntmps25
      go_wp2_with fail
      refine hI.mono ?_
      rintro e w1 ⟨rfl, hb1⟩
      go_wp2_with fail
      refine (symmetry_any a n c m xs _ (h.below hb1) HP hm).mono ?_
      rintro e w2 ⟨a2, n2, c2, rfl, ho2, hb2⟩
      go_wp2
      go_ret2
      exact ⟨_, _, _, rfl, ho2.mono hb1.size, hb1.trans (hb2.mono hb1.size)⟩
    · have hno : ¬ SymOk xs k := fun ho => hr ho.2
      have e : symP xs k = [] := if_neg hno
      rw [e, decide_eq_false hno]
      clear hno e hp
      by_cases h0 : k < 0
      all_goals
        have h7 : 0 ≤ k → 7 < k := by omega
        try have h7' := h7 (by omega)
        have HR := Lib.hid hr
        clear h7
        go_enter Try.func25, Try.ntmps25
        go_wp2_with fail
        refine hI.mono ?_
        rintro e w1 ⟨rfl, hb1⟩
        go_wp2
        go_ret2
        exact ⟨_, _, _, rfl, OwnI.nil _ _, hb1⟩
  · rw [decide_eq_false hp] at hI
    have hno : ¬ SymOk xs k := fun ho => hp ho.1
    have e : symP xs k = [] := if_neg hno
    rw [e, decide_eq_false hno]
    clear hno e hp
    go_enter Try.func25, Try.ntmps25
    go_wp2_with fail
    refine hI.mono ?_
    rintro e w1 ⟨rfl, hb1⟩
    go_wp2
    go_ret2
    exact ⟨_, _, _, rfl, OwnI.nil _ _, hb1⟩

set_option maxHeartbeats 1000000 in
theorem spec_SymmetryOf (a : Option Addr) (n c : Nat) (xs : List Int) (k : Int) (w : World) (h : SlI w a n c xs) (_hk : (Lit.int .i64 k).wf = true) :
    Calls Try.prog 26 #[.slice a n c, .int .i64 k] w (RetIB w (symP xs k) (decide (SymOk xs k))) := by
  have hI := spec_IsPerm a n c xs w h
  by_cases hp : Perm8 xs
  · rw [decide_eq_true hp] at hI
    by_cases hr : 0 ≤ k ∧ k ≤ 7
    · have hok : SymOk xs k := ⟨hp, hr⟩
      have e : symP xs k = symL k.toNat xs := if_pos hok
      have HP : Hid (IsPermL xs) := hp.2
      obtain ⟨m, rfl⟩ : ∃ m : Nat, k = (m : Int) := ⟨k.toNat, by omega⟩
      have hm : m ≤ 7 := by omega
      rw [e, decide_eq_true hok, Int.toNat_natCast]
      clear hok e hp hr
      have hg : ¬ ((7 : Int) < (m : Int)) := by omega
      go_enter Try.func26, Try.ntmps26
      go_wp2_with fail
      refine hI.mono ?_
      rintro e w1 ⟨rfl, hb1⟩
      go_wp2_with fail
      refine (l1In_any _ 0 7 true (decide_eq_true (show (0 : Int) ≤ (m : Int) ∧ (m : Int) ≤ 7 by omega)).symm _).mono ?_
      rintro e w1' ⟨rfl, rfl⟩
      go_wp2_with fail
      refine (l3Symmetry_any a n c m xs _ (h.below hb1) HP hm).mono ?_
      rintro e w2 ⟨a2, n2, c2, rfl, ho2, hb2⟩
      go_wp2
      go_ret2
      exact ⟨_, _, _, rfl, ho2.mono hb1.size, hb1.trans (hb2.mono hb1.size)⟩
    · have hno : ¬ SymOk xs k := fun ho => hr ho.2
      have e : symP xs k = [] := if_neg hno
      rw [e, decide_eq_false hno]
      clear hno e hp
      by_cases h0 : k < 0
      all_goals
        have h7 : 0 ≤ k → 7 < k := by omega
        try have h7' := h7 (by omega)
        have HR := Lib.hid hr
        clear h7
        go_enter Try.func26, Try.ntmps26
        go_wp2_with fail
        refine hI.mono ?_
        rintro e w1 ⟨rfl, hb1⟩
        go_wp2_with fail
        refine (l1In_any _ 0 7 false (decide_eq_false HR.out).symm _).mono ?_
        rintro e w1' ⟨rfl, rfl⟩
        go_wp2
        go_ret2
        exact ⟨_, _, _, rfl, (OwnI.lit0 _).mono hb1.size, hb1.alloc hb1.size _⟩
  · rw [decide_eq_false hp] at hI
    have hno : ¬ SymOk xs k := fun ho => hp ho.1
    have e : symP xs k = [] := if_neg hno
    rw [e, decide_eq_false hno]
    clear hno e hp
    go_enter Try.func26, Try.ntmps26
    go_wp2_with fail
    refine hI.mono ?_
    rintro e w1 ⟨rfl, hb1⟩
    go_wp2
    go_ret2
    exact ⟨_, _, _, rfl, (OwnI.lit0 _).mono hb1.size, hb1.alloc hb1.size _⟩
end Go.Proofs.Ytjhlianledgiiaa
