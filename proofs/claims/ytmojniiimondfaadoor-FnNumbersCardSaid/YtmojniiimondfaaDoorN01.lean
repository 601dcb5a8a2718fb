/- Plain facts on decimal numerals: what reads as a number between bounds. No program in sight. -/
import Derived.Test.YtmojniiimondfaaDoorS01
import Derived.Lib.AtoiTie
namespace Go.Proofs.YtmojniiimondfaaDoor
open Go.RowKit

/-- The number that l spells, if it lies between the bounds and l is its own numeral. -/
def numIn (low high : Int) (l : List UInt8) : Option Int :=
  match Lib.atoiAll l with
  | .ok v => if low ≤ v ∧ v ≤ high ∧ Lib.itoa v = l then some v else none
  | _ => none
/-- The reference's reading: a '-' or none, then from one digit to 'most'. -/
def rdNeg (l : List UInt8) : Bool := decide (l.head? = some 45)
def rdT (l : List UInt8) : List UInt8 := if rdNeg l = true then l.drop 1 else l
def rdV (l : List UInt8) (n : Nat) : Int := if rdNeg l = true then -(n : Int) else (n : Int)
def rdL (most : Nat) (l : List UInt8) : Option Int :=
  if 1 ≤ (rdT l).length ∧ (rdT l).length ≤ most then
    match Lib.decFrom 0 (rdT l) with
    | some n => if Lib.itoa (rdV l n) = l then some (rdV l n) else none
    | none => none
  else none

theorem decFrom_append (l : List UInt8) : ∀ (acc : Nat) (b : UInt8), Lib.decFrom acc (l ++ [b]) = (Lib.decFrom acc l).bind fun x => Lib.decFrom x [b] := by
  induction l with
  | nil => intro acc b; rfl
  | cons a t ih =>
    intro acc b
    simp only [List.cons_append, Lib.decFrom]
    cases Lib.digitVal a with
    | none => rfl
    | some d => exact ih _ b
theorem digitVal_of {d : Nat} (h : d < 10) : Lib.digitVal (UInt8.ofNat (48 + d)) = some d := by
  have h1 : (UInt8.ofNat (48 + d)).toNat = 48 + d := by rw [UInt8.toNat_ofNat']; omega
  unfold Lib.digitVal
  rw [h1, if_pos (by omega)]
  congr 1; omega
theorem decFrom_digits (u : Nat) : Lib.decFrom 0 (Lib.decDigits u) = some u := by
  induction u using Nat.strongRecOn with
  | _ u ih =>
    by_cases h : u < 10
    · rw [Lib.decDigits_one h]
      simp only [Lib.decFrom, digitVal_of h]
      congr 1; omega
    · rw [Lib.decDigits, dif_neg h, decFrom_append, ih (u / 10) (by omega)]
      simp only [Option.bind_some, Lib.decFrom, digitVal_of (Nat.mod_lt u (show 0 < 10 by decide))]
      congr 1; omega
theorem digits_ne (u : Nat) : Lib.decDigits u ≠ [] := by
  intro h
  have h1 := congrArg List.length h
  rw [Lib.decDigits_length] at h1
  have := Lib.nDigits_pos u
  simp at h1; omega
theorem digits_head (u : Nat) : ∃ b r, Lib.decDigits u = b :: r ∧ 48 ≤ b.toNat := by
  cases h : Lib.decDigits u with
  | nil => exact absurd h (digits_ne u)
  | cons b r =>
    refine ⟨b, r, rfl, ?_⟩
    have hq : Lib.decFrom 0 (b :: r) = some u := by rw [← h]; exact decFrom_digits u
    obtain ⟨d, hd⟩ := Lib.digit_of_decFrom _ 0 u hq 0 b rfl
    exact (Lib.digitVal_eq hd).1
theorem nDigits_le {k u : Nat} (hk : 1 ≤ k) (h : u < 10 ^ k) : Lib.nDigits u ≤ k := by
  induction k generalizing u with
  | zero => omega
  | succ k ih =>
    by_cases h1 : u < 10
    · rw [Lib.nDigits_small h1]; omega
    · rw [Lib.nDigits_big h1]
      have hk1 : 1 ≤ k := by
        rcases Nat.eq_zero_or_pos k with rfl | h2
        · simp at h; omega
        · exact h2
      have := ih (u := u / 10) hk1 (by rw [Nat.pow_succ] at h; omega)
      omega
theorem rd_digits (u : Nat) : rdNeg (Lib.decDigits u) = false ∧ rdT (Lib.decDigits u) = Lib.decDigits u ∧ rdV (Lib.decDigits u) u = (u : Int) := by
  obtain ⟨b, r, h, hb⟩ := digits_head u
  have h1 : rdNeg (Lib.decDigits u) = false := by
    rw [h]; unfold rdNeg
    simp only [List.head?_cons, Option.some.injEq, decide_eq_false_iff_not]
    intro e; subst e
    have : (45 : UInt8).toNat = 45 := rfl
    omega
  refine ⟨h1, ?_, ?_⟩
  · unfold rdT; rw [h1]; rfl
  · unfold rdV; rw [h1]; rfl
theorem rd_minus (l : List UInt8) : rdNeg (45 :: l) = true ∧ rdT (45 :: l) = l ∧ ∀ n, rdV (45 :: l) n = -(n : Int) := by
  have h1 : rdNeg (45 :: l) = true := by unfold rdNeg; simp
  refine ⟨h1, ?_, fun n => ?_⟩
  · unfold rdT; rw [h1]; rfl
  · unfold rdV; rw [h1]; rfl

theorem rdL_some {most : Nat} {l : List UInt8} {v : Int} (h : rdL most l = some v) : Lib.itoa v = l ∧ v.natAbs < 10 ^ most ∧ l.length ≤ most + 1 ∧ 1 ≤ l.length := by
  unfold rdL at h
  split at h
  · rename_i hl
    split at h
    · rename_i n hn
      split at h
      · rename_i he
        obtain rfl := Option.some.inj h
        refine ⟨he, ?_, ?_, ?_⟩
        · have h1 := Lib.decFrom_lt _ 0 n hn
          have h2 := Nat.pow_le_pow_right (n := 10) (by decide) hl.2
          have h3 : (rdV l n).natAbs = n := by unfold rdV; split <;> omega
          rw [h3]; omega
        · have h4 := hl.2; unfold rdT at h4; split at h4 <;> (try simp at h4) <;> omega
        · have h4 := hl.1; unfold rdT at h4; split at h4 <;> (try simp at h4) <;> omega
      · cases h
    · cases h
  · cases h
theorem rdL_of {most : Nat} {l : List UInt8} {v : Int} (hm : 1 ≤ most) (he : Lib.itoa v = l) (hv : v.natAbs < 10 ^ most) : rdL most l = some v := by
  have hd := nDigits_le hm hv
  have hp := Lib.nDigits_pos v.natAbs
  have hlen : (Lib.decDigits v.natAbs).length = Lib.nDigits v.natAbs := Lib.decDigits_length _
  by_cases hneg : v < 0
  · have e : l = 45 :: Lib.decDigits v.natAbs := by rw [← he]; unfold Lib.itoa; rw [if_pos hneg]
    obtain ⟨h1, h2, h3⟩ := rd_minus (Lib.decDigits v.natAbs)
    unfold rdL
    rw [e, h2, if_pos ⟨by omega, by omega⟩, decFrom_digits]
    simp only [h3]
    have e2 : -(v.natAbs : Int) = v := by omega
    rw [e2, ← e, if_pos he]
  · have e : l = Lib.decDigits v.natAbs := by rw [← he]; unfold Lib.itoa; rw [if_neg hneg]; congr 1; omega
    obtain ⟨h1, h2, h3⟩ := rd_digits v.natAbs
    unfold rdL
    rw [e, h2, if_pos ⟨by omega, by omega⟩, decFrom_digits]
    simp only [h3]
    have e2 : (v.natAbs : Int) = v := by omega
    rw [e2, ← e, if_pos he]
theorem atoiAll_itoa {v : Int} {l : List UInt8} (he : Lib.itoa v = l) (hl : l.length ≤ 18) : Lib.atoiAll l = .ok v := by
  rw [Lib.atoiAll_short l hl]
  by_cases hneg : v < 0
  · have e : l = 45 :: Lib.decDigits v.natAbs := by rw [← he]; unfold Lib.itoa; rw [if_pos hneg]
    rw [e]
    have h1 : Lib.decNat (Lib.decDigits v.natAbs) = some v.natAbs := by
      unfold Lib.decNat
      rw [if_neg (by simp [digits_ne]), decFrom_digits]
    simp only [Lib.atoi, beq_self_eq_true, if_true, h1, Option.map_some, Lib.NumEnd.ofOption]
    congr 1; omega
  · have e : l = Lib.decDigits v.natAbs := by rw [← he]; unfold Lib.itoa; rw [if_neg hneg]; congr 1; omega
    rw [e]
    have h1 : Lib.decNat (Lib.decDigits v.natAbs) = some v.natAbs := by
      unfold Lib.decNat
      rw [if_neg (by simp [digits_ne]), decFrom_digits]
    obtain ⟨b, r, h2, hb⟩ := digits_head v.natAbs
    rw [h2] at h1 ⊢
    have n45 : (b == 45) = false := by
      rw [beq_eq_false_iff_ne]; intro e3; subst e3
      have : (45 : UInt8).toNat = 45 := rfl
      omega
    have n43 : (b == 43) = false := by
      rw [beq_eq_false_iff_ne]; intro e3; subst e3
      have : (43 : UInt8).toNat = 43 := rfl
      omega
    simp only [Lib.atoi, n45, n43, h1, Option.map_some, Lib.NumEnd.ofOption, Bool.false_eq_true, if_false]
    congr 1; omega
theorem numIn_iff {low high v : Int} {l : List UInt8} (hl : low ≥ -999999999999 ∧ high ≤ 999999999999) : numIn low high l = some v ↔ Lib.itoa v = l ∧ low ≤ v ∧ v ≤ high := by
  constructor
  · intro h
    unfold numIn at h
    split at h
    · rename_i u hu
      split at h
      · rename_i hc
        obtain rfl := Option.some.inj h
        exact ⟨hc.2.2, hc.1, hc.2.1⟩
      · cases h
    · cases h
  · rintro ⟨he, h1, h2⟩
    have hv : v.natAbs < 10 ^ 12 := by
      have : (10 : Nat) ^ 12 = 1000000000000 := by decide
      omega
    have hr := rdL_of (l := l) (by decide) he hv
    have hs := rdL_some hr
    unfold numIn
    rw [atoiAll_itoa he (by omega)]
    simp only
    rw [if_pos ⟨h1, h2, he⟩]
theorem optEq {a b : Option Int} (h : ∀ v, a = some v ↔ b = some v) : a = b := by
  cases a with
  | none =>
    cases b with
    | none => rfl
    | some y => exact absurd ((h y).2 rfl) (by simp)
  | some x => exact ((h x).1 rfl).symm
theorem rdL_num12 (l : List UInt8) : rdL 12 l = numIn (-999999999999) 999999999999 l := by
  have e12 : (10 : Nat) ^ 12 = 1000000000000 := by decide
  refine optEq fun v => ?_
  rw [numIn_iff ⟨by omega, by omega⟩]
  constructor
  · intro h
    have h1 := rdL_some h
    exact ⟨h1.1, by omega, by omega⟩
  · rintro ⟨h1, h2, h3⟩
    exact rdL_of (by decide) h1 (by omega)
/-- .. and not below 0. -/
def rdP (l : List UInt8) : Option Int := match rdL 6 l with
  | some v => if v < 0 then none else some v
  | none => none
theorem rdP_num6 (l : List UInt8) : rdP l = numIn 0 999999 l := by
  have e6 : (10 : Nat) ^ 6 = 1000000 := by decide
  refine optEq fun v => ?_
  rw [numIn_iff ⟨by omega, by omega⟩]
  constructor
  · intro h
    unfold rdP at h
    split at h
    · rename_i u hu
      split at h
      · cases h
      · obtain rfl := Option.some.inj h
        have h1 := rdL_some hu
        exact ⟨h1.1, by omega, by omega⟩
    · cases h
  · rintro ⟨h1, h2, h3⟩
    unfold rdP
    rw [rdL_of (by decide) h1 (by omega)]
    simp only
    rw [if_neg (by omega)]
theorem numIn_bd {low high v : Int} {l : List UInt8} (h : numIn low high l = some v) : low ≤ v ∧ v ≤ high := by
  unfold numIn at h
  split at h
  · split at h
    · rename_i hc
      obtain rfl := Option.some.inj h
      exact ⟨hc.1, hc.2.1⟩
    · cases h
  · cases h
/-- A number's numeral reads as the number just where it lies between the bounds. -/
theorem numIn_itoa {low high v : Int} (hl : low ≥ -999999999999 ∧ high ≤ 999999999999) : numIn low high (Lib.itoa v) = if low ≤ v ∧ v ≤ high then some v else none := by
  by_cases h : low ≤ v ∧ v ≤ high
  · rw [if_pos h]; exact (numIn_iff hl).2 ⟨rfl, h.1, h.2⟩
  · rw [if_neg h]
    cases hn : numIn low high (Lib.itoa v) with
    | none => rfl
    | some u =>
      obtain ⟨h1, h2, h3⟩ := (numIn_iff hl).1 hn
      exfalso
      have hu : u.natAbs < 10 ^ 12 := by
        have : (10 : Nat) ^ 12 = 1000000000000 := by decide
        omega
      have hs := rdL_some (rdL_of (l := Lib.itoa u) (by decide) rfl hu)
      have e1 := atoiAll_itoa (v := u) rfl (by omega)
      have e2 := atoiAll_itoa (v := v) h1.symm (by omega)
      rw [e1] at e2
      injection e2 with e3
      subst e3; exact h ⟨h2, h3⟩
end Go.Proofs.YtmojniiimondfaaDoor
