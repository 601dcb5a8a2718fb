/- A permutation is read from its text. No condition. -/
import Derived.Test.YtjhlianledgiiaaS03
namespace Go.Proofs.Ytjhlianledgiiaa
open Go.RowKit

theorem prsL_ptL {xs : List Int} (h : Perm8 xs) : (ptL xs).map (fun b => (b.toNat : Int) - 48) = xs := by
  unfold ptL
  rw [List.map_map]
  have : ∀ v ∈ xs, ((fun b : UInt8 => (b.toNat : Int) - 48) ∘ fun v : Int => UInt8.ofNat (48 + v.toNat)) v = id v := by
    intro v hv
    have h1 := h.2.1 v hv
    have h2 := h.1
    simp only [Function.comp, id]
    have : (UInt8.ofNat (48 + v.toNat)).toNat = 48 + v.toNat := by
      rw [UInt8.toNat_ofNat']; omega
    rw [this]; omega
  rw [List.map_congr_left this]; simp
theorem text_read (xs : List Int) : prsB ⟨(ptx xs).toArray⟩ = decide (Perm8 xs) ∧ (Perm8 xs → prsP ⟨(ptx xs).toArray⟩ = xs) := by
  by_cases hp : Perm8 xs
  · rw [decide_eq_true hp]
    by_cases h0 : xs = []
    · have e : ptx xs = [45] := by unfold ptx; rw [if_pos hp, if_pos h0]
      rw [e]
      have ed : (⟨([45] : List UInt8).toArray⟩ : ByteArray) = dash := rfl
      rw [ed]
      exact ⟨by unfold prsB; simp, fun _ => by unfold prsP; rw [if_pos rfl, h0]⟩
    · have e : ptx xs = ptL xs := by unfold ptx; rw [if_pos hp, if_neg h0]
      rw [e]
      have hl : prsL ⟨(ptL xs).toArray⟩ = xs := by unfold prsL; simpa using prsL_ptL hp
      have hs : (⟨(ptL xs).toArray⟩ : ByteArray).size = xs.length := by rw [← length_prsL, hl]
      have hok : PrsOk ⟨(ptL xs).toArray⟩ := ⟨by rw [hs]; intro h; exact h0 (List.length_eq_zero_iff.1 h), by rw [hl]; exact hp⟩
      have hnd : (⟨(ptL xs).toArray⟩ : ByteArray) ≠ dash := by
        intro hd
        have h1 : prsL dash = xs := by rw [← hd]; exact hl
        have h2 : prsL dash = [-3] := by decide
        have h3 := hp.2.1 (-3) (by rw [← h1, h2]; simp)
        omega
      refine ⟨by unfold prsB; rw [decide_eq_true hok]; simp, fun _ => ?_⟩
      unfold prsP
      rw [if_neg hnd, if_pos hok, hl]
  · rw [decide_eq_false hp]
    have e : ptx xs = [] := by unfold ptx; rw [if_neg hp]
    rw [e]
    refine ⟨?_, fun h => absurd h hp⟩
    unfold prsB
    rw [decide_eq_false (show ¬ ((⟨([] : List UInt8).toArray⟩ : ByteArray) = dash) from fun h => by have := congrArg ByteArray.size h; exact absurd this (by decide)), decide_eq_false (fun h => h.1 rfl)]
    rfl
end Go.Proofs.Ytjhlianledgiiaa
