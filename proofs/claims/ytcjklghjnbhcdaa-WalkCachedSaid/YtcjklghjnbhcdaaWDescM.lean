/- Descriptors as numbers. -/
import Derived.Test.YtcjklghjnbhcdaaWBit
namespace Go.Proofs.Ytcjklghjnbhcdaa
open Go.RowKit

theorem and_one_mod (X : Nat) (hX : X < 18446744073709551616) : bits .and .u64 (X : Int) 1 = ((X % 2 : Nat) : Int) := by
  have e1 : (1 : Int) = ((1 : Nat) : Int) := rfl
  conv => lhs; rw [e1]
  rw [bits_and_u64_nat _ _ (by omega) (by omega), Nat.and_one_is_mod]
theorem and_three_mod (X : Nat) (hX : X < 18446744073709551616) : bits .and .u64 (X : Int) 3 = ((X % 4 : Nat) : Int) := by
  have e1 : (3 : Int) = ((3 : Nat) : Int) := rfl
  conv => lhs; rw [e1]
  rw [bits_and_u64_nat _ _ (by omega) (by omega)]
  have : X &&& 3 = X % 2 ^ 2 := Nat.and_two_pow_sub_one_eq_mod X 2
  rw [this]

/-- Is it the word of a descriptor (pg: of a page)? -/
def okD (X : Nat) (pg : Bool) : Bool := decide (X = 3 + X / 4096 % 64 * 4096 + if pg then X / 64 % 4 * 64 + X / 1024 % 4 * 1024 else 0)
def maskN (pg : Bool) : Nat := if pg then 261315 else 258051

theorem off_zero {X m : Nat} (hm : m < 18446744073709551616) (h : X &&& (2 ^ 64 - 1 - m) = 0) (i : Nat) (hi : i < 64) (hb : m.testBit i = false) : X.testBit i = false := by
  have h1 : (X &&& (2 ^ 64 - 1 - m)).testBit i = false := by rw [h]; simp
  have e : 2 ^ 64 - 1 - m = 2 ^ 64 - (m + 1) := by omega
  rw [Nat.testBit_and, e, Nat.testBit_two_pow_sub_succ (by omega), hb] at h1
  simpa [hi] using h1
theorem mid_zero {X l n : Nat} (h : ∀ i, l ≤ i → i < l + n → X.testBit i = false) : X / 2 ^ l % 2 ^ n = 0 := by
  apply Nat.eq_of_testBit_eq
  intro i
  rw [Nat.testBit_mod_two_pow, Nat.testBit_div_two_pow]
  by_cases hi : i < n
  · rw [h (i + l) (by omega) (by omega)]; simp
  · simp [hi]
theorem top_zero {X n : Nat} (h : ∀ i, n ≤ i → X.testBit i = false) : X < 2 ^ n := Nat.lt_pow_two_of_testBit X h
theorem bit_lit (X k : Nat) : X.testBit k = decide (X / 2 ^ k % 2 = 1) := Nat.testBit_eq_decide_div_mod_eq

theorem ok_yes {X : Nat} (hX : X < 18446744073709551616) {pg : Bool} (h3 : X % 4 = 3) (h : X &&& (2 ^ 64 - 1 - maskN pg) = 0) : okD X pg = true := by
  have hz := fun i hi hb => off_zero (X := X) (m := maskN pg) (by cases pg <;> decide) h i hi hb
  have hbig : X < 2 ^ 18 := top_zero fun i hi => by
    by_cases h64 : i < 64
    · refine hz i h64 ?_
      exact Nat.testBit_lt_two_pow (Nat.lt_of_lt_of_le (show maskN pg < 2 ^ 18 by cases pg <;> decide) (Nat.pow_le_pow_right (by decide) hi))
    · exact Nat.testBit_lt_two_pow (Nat.lt_of_lt_of_le (show X < 2 ^ 64 by omega) (Nat.pow_le_pow_right (by decide) (by omega)))
  cases pg
  · have h1 : X / 2 ^ 2 % 2 ^ 10 = 0 := mid_zero fun i h1 h2 => by
      refine hz i (by omega) ?_
      rcases (by omega : i = 2 ∨ i = 3 ∨ i = 4 ∨ i = 5 ∨ i = 6 ∨ i = 7 ∨ i = 8 ∨ i = 9 ∨ i = 10 ∨ i = 11) with rfl | rfl | rfl | rfl | rfl | rfl | rfl | rfl | rfl | rfl <;> decide
    simp only [okD, decide_eq_true_eq]
    simp at h1 hbig ⊢
    omega
  · have h1 : X / 2 ^ 2 % 2 ^ 4 = 0 := mid_zero fun i h1 h2 => by
      refine hz i (by omega) ?_
      rcases (by omega : i = 2 ∨ i = 3 ∨ i = 4 ∨ i = 5) with rfl | rfl | rfl | rfl <;> decide
    have h2 : X / 2 ^ 8 % 2 ^ 2 = 0 := mid_zero fun i h1 h2 => by
      refine hz i (by omega) ?_
      rcases (by omega : i = 8 ∨ i = 9) with rfl | rfl <;> decide
    simp only [okD, decide_eq_true_eq]
    simp at h1 h2 hbig ⊢
    omega
theorem ok_off {X : Nat} {pg : Bool} (h : okD X pg = true) : X % 4 = 3 ∧ X &&& (2 ^ 64 - 1 - maskN pg) = 0 := by
  simp only [okD, decide_eq_true_eq] at h
  refine ⟨by cases pg <;> simp at h <;> omega, ?_⟩
  apply Nat.eq_of_testBit_eq
  intro i
  have hbig : X < 2 ^ 18 := by cases pg <;> simp at h ⊢ <;> omega
  rw [Nat.testBit_and, Nat.zero_testBit]
  by_cases hi : i < 18
  · have hm : (2 ^ 64 - 1 - maskN pg).testBit i = !(maskN pg).testBit i := by
      have e : 2 ^ 64 - 1 - maskN pg = 2 ^ 64 - (maskN pg + 1) := by cases pg <;> decide
      rw [e, Nat.testBit_two_pow_sub_succ (by cases pg <;> decide)]
      simp; omega
    rw [hm]
    cases hb : (maskN pg).testBit i
    · have : X.testBit i = false := by
        rw [bit_lit, decide_eq_false_iff_not]
        cases pg
        · simp at h
          rcases (by omega : i = 0 ∨ i = 1 ∨ i = 2 ∨ i = 3 ∨ i = 4 ∨ i = 5 ∨ i = 6 ∨ i = 7 ∨ i = 8 ∨ i = 9 ∨ i = 10 ∨ i = 11 ∨ i = 12 ∨ i = 13 ∨ i = 14 ∨ i = 15 ∨ i = 16 ∨ i = 17) with rfl | rfl | rfl | rfl | rfl | rfl | rfl | rfl | rfl | rfl | rfl | rfl | rfl | rfl | rfl | rfl | rfl | rfl
          all_goals first | (exfalso; revert hb; decide) | (simp; omega)
        · simp at h
          rcases (by omega : i = 0 ∨ i = 1 ∨ i = 2 ∨ i = 3 ∨ i = 4 ∨ i = 5 ∨ i = 6 ∨ i = 7 ∨ i = 8 ∨ i = 9 ∨ i = 10 ∨ i = 11 ∨ i = 12 ∨ i = 13 ∨ i = 14 ∨ i = 15 ∨ i = 16 ∨ i = 17) with rfl | rfl | rfl | rfl | rfl | rfl | rfl | rfl | rfl | rfl | rfl | rfl | rfl | rfl | rfl | rfl | rfl | rfl
          all_goals first | (exfalso; revert hb; decide) | (simp; omega)
      rw [this]; rfl
    · simp
  · rw [Nat.testBit_lt_two_pow (Nat.lt_of_lt_of_le hbig (Nat.pow_le_pow_right (by decide) (by omega)))]; rfl

theorem bits_table {X : Nat} (h : okD X false = true) : X.testBit 6 = false ∧ X.testBit 7 = false ∧ X.testBit 10 = false ∧ X.testBit 11 = false := by
  simp only [okD, decide_eq_true_eq] at h
  simp at h
  refine ⟨?_, ?_, ?_, ?_⟩ <;> rw [bit_lit, decide_eq_false_iff_not] <;> simp <;> omega

/-- A descriptor. -/
structure D6 where
  kind : Int
  frame : Int
  af : Bool
  ro : Bool
  user : Bool
  ng : Bool
deriving DecidableEq
abbrev D6.v (d : D6) : Value := .agg #[.int .i8 d.kind, .int .i64 d.frame, .bool d.af, .bool d.ro, .bool d.user, .bool d.ng]
abbrev d0 : D6 := ⟨0, 0, false, false, false, false⟩
def pgOf (L : Int) : Bool := decide (L = 3)
def goodD (X : Nat) (L : Int) : Bool := decide (0 ≤ L ∧ L ≤ 3 ∧ X % 2 = 1) && okD X (pgOf L)
def decD (X : Nat) (L : Int) : D6 := if goodD X L then (if L = 3 then ⟨2, ((X / 4096 % 64 : Nat) : Int), X.testBit 10, X.testBit 7, X.testBit 6, X.testBit 11⟩ else ⟨1, ((X / 4096 % 64 : Nat) : Int), false, false, false, false⟩) else d0
def decE (X : Nat) (L : Int) : Int := if L < 0 ∨ 3 < L then 2 else if X % 2 = 0 then 0 else if okD X (pgOf L) then 0 else 30
/-- A page's word without AF. -/
def touchB (X : Nat) : Bool := goodD X 3 && !X.testBit 10
def touchV (X : Nat) : Int := if touchB X then (X : Int) + 1024 else X
end Go.Proofs.Ytcjklghjnbhcdaa
