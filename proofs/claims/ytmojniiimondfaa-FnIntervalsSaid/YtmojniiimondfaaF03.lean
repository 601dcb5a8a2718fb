/- The walks of IdentityPerm, of the program and of the reference. No condition. -/
import Derived.Test.YtmojniiimondfaaF02
namespace Go.Proofs.Ytmojniiimondfaa
open Go.RowKit

/-- 1 .. n -/
def ident (n : Nat) : List Int := (List.range n).map fun (i : Nat) => (i : Int) + 1
theorem ident_succ (k : Nat) : ident (k + 1) = ident k ++ [(k : Int) + 1] := by simp [ident, List.range_succ]
def identP (n : Int) : List Int := if 1 ≤ n ∧ n ≤ 8 then ident n.toNat else []
theorem length_ident (n : Nat) : (ident n).length = n := by simp [ident]
theorem length_identP (n : Int) : (identP n).length ≤ 8 := by
  unfold identP; split
  · rw [length_ident]; omega
  · simp

set_option maxHeartbeats 400000 in
theorem identity_any (n : Nat) (w : World) (hn : n ≤ 8) :
    Calls Try.prog 118 #[.int .i64 n] w (RetI w (ident n)) := by
  go_enter Try.func118, Try.ntmps118
  go_wp2
  go_loopw [3, 7] (fun v i wr => ∃ (k c : Nat) (a : Option Addr), k ≤ n ∧ i = .int .i64 k ∧ v = .slice a k c ∧ OwnI wr w.heap.size a k c (ident k) ∧ Below w.heap.size w wr) (fun _ i _ => n - (intOf i).toNat)
  case atStart => exact ⟨0, 0, _, Nat.zero_le _, rfl, rfl, OwnI.lit0 w, below_alloc _ _⟩
  case round =>
    obtain ⟨k, c, a, hk, rfl, rfl, ho, hb⟩ := hrel
    by_cases hlt : k < n
    · go_wp2_with (at_builtin; refine wpList_appI rfl _ _ rfl w.heap.size _ _ _ _ rfl ho _ rfl (by omega) hb.size ?_)
      intro a' c' w1 h1 h3
      go_wp2
      go_roundw
      case rel => exact ⟨k + 1, c', a', by omega, by go_num, rfl, by rw [ident_succ]; exact h1, hb.trans h3⟩
      case measure => simp [intOf]; omega
    · have : k = n := by omega
      subst this
      go_wp2
      go_ret
      exact ⟨a, k, c, rfl, ho, hb⟩

set_option maxHeartbeats 400000 in
theorem spec_IdentityPerm (n : Int) (w : World) (_hn : (Lit.int .i64 n).wf = true) :
    Calls Try.prog 93 #[.int .i64 n] w (RetI w (identP n)) := by
  by_cases hr : 1 ≤ n ∧ n ≤ 8
  · have e : identP n = ident n.toNat := by unfold identP; rw [if_pos (by omega)]
    rw [e]
    obtain ⟨m, rfl⟩ : ∃ m : Nat, n = (m : Int) := ⟨n.toNat, by omega⟩
    rw [Int.toNat_natCast]
    have hm1 : 1 ≤ m := by omega
    have hm2 : m ≤ 8 := by omega
    clear hr e _hn
    go_enter Try.func93, Try.ntmps93
    go_wp2
    go_loopw [3, 4] (fun v i wr => ∃ (k c : Nat) (a : Option Addr), k ≤ m ∧ i = .int .i64 ((k : Int) + 1) ∧ v = .slice a k c ∧ OwnI wr w.heap.size a k c (ident k) ∧ Below w.heap.size w wr) (fun _ i _ => m + 1 - (intOf i).toNat)
    case atStart => exact ⟨0, 0, _, Nat.zero_le _, rfl, rfl, OwnI.lit0 w, below_alloc _ _⟩
    case round =>
      obtain ⟨k, c, a, hk, rfl, rfl, ho, hb⟩ := hrel
      by_cases hlt : k < m
      · go_wp2_with (at_builtin; refine wpList_appI rfl _ _ rfl w.heap.size _ _ _ _ rfl ho _ rfl (by omega) hb.size ?_)
        intro a' c' w1 h1 h3
        go_wp2
        go_roundw
        case rel => exact ⟨k + 1, c', a', by omega, by go_num, rfl, by rw [ident_succ]; exact h1, hb.trans h3⟩
        case measure => simp [intOf]; omega
      · have : k = m := by omega
        subst this
        go_wp2
        go_ret
        exact ⟨a, k, c, rfl, ho, hb⟩
  · have e : identP n = [] := by unfold identP; rw [if_neg hr]
    rw [e]
    by_cases h1 : n < 1
    all_goals
      go_enter Try.func93, Try.ntmps93
      go_wp2
      go_loopw [3, 4] (fun v i wr => i = .int .i64 1 ∧ v = .slice (some ⟨w.heap.size, 0, none⟩) 0 0 ∧ OwnI wr w.heap.size (some ⟨w.heap.size, 0, none⟩) 0 0 [] ∧ Below w.heap.size w wr) (fun _ _ _ => 0)
      case atStart => exact ⟨rfl, rfl, OwnI.lit0 w, below_alloc _ _⟩
      case round =>
        obtain ⟨rfl, rfl, ho, hb⟩ := hrel
        have h8 : 1 ≤ n → 8 < n := by omega
        try have h8' := h8 (by omega)
        clear hr h8
        go_wp2
        go_ret
        exact ⟨_, _, _, rfl, ho, hb⟩
end Go.Proofs.Ytmojniiimondfaa
