/- Numbers alone: fields of words of 64 bits. -/
import Derived.WalkKit
import Derived.Laws.BitsAll
import Derived.Laws.Bits64b
import Derived.OpenShut
namespace Go.Proofs.Ytcjklghjnbhcdaa
open Go.RowKit

def valid (hi lo : Int) : Prop := 0 ≤ lo ∧ lo ≤ hi ∧ hi ≤ 63
instance (hi lo : Int) : Decidable (valid hi lo) := by unfold valid; infer_instance
def onesV (hi lo : Int) : Int := (2 ^ (hi - lo + 1).toNat - 1) * 2 ^ lo.toNat
def getV (x hi lo : Int) : Int := x / 2 ^ lo.toNat % 2 ^ (hi - lo + 1).toNat
def putV (x hi lo v : Int) : Int := x % 2 ^ lo.toNat + v * 2 ^ lo.toNat + x / 2 ^ (hi + 1).toNat * 2 ^ (hi + 1).toNat
def signV (x hi : Int) : Int := if 2 ^ hi.toNat ≤ x % 2 ^ (hi + 1).toNat then x % 2 ^ (hi + 1).toNat - 2 ^ (hi + 1).toNat else x % 2 ^ (hi + 1).toNat

/-- A place is a natural number. -/
theorem nats {hi lo : Int} (h : valid hi lo) : ∃ l n : Nat, lo = l ∧ hi = l + n ∧ l + n ≤ 63 := by
  obtain ⟨h1, h2, h3⟩ := h
  exact ⟨lo.toNat, (hi - lo).toNat, by omega, by omega, by omega⟩

theorem pow_pos (n : Nat) : 0 < 2 ^ n := Nat.two_pow_pos n
theorem pow64 (l n : Nat) (h : l + n ≤ 63) : 2 ^ (n + 1) * 2 ^ l ≤ 2 ^ 64 := by
  rw [← Nat.pow_add]; exact Nat.pow_le_pow_right (by decide) (by omega)

theorem onesN (l n : Nat) (h : l + n ≤ 63) : (2 ^ (n + 1) - 1) * 2 ^ l < 2 ^ 64 := by
  have h1 := pow64 l n h
  have h2 := pow_pos l
  rw [Nat.sub_mul, Nat.one_mul]; omega

theorem ones_cast (l n : Nat) : onesV (l + n) l = (((2 ^ (n + 1) - 1) * 2 ^ l : Nat) : Int) := by
  have e1 : ((l : Int) + n - l + 1).toNat = n + 1 := by omega
  have h := pow_pos (n + 1)
  unfold onesV
  rw [e1, Int.toNat_natCast, Int.natCast_mul, Int.ofNat_sub (by omega)]
  simp

theorem get_cast (X l n : Nat) : getV X (l + n) l = ((X / 2 ^ l % 2 ^ (n + 1) : Nat) : Int) := by
  have e1 : ((l : Int) + n - l + 1).toNat = n + 1 := by omega
  unfold getV
  rw [e1, Int.toNat_natCast]
  simp

theorem mask_val (hi lo : Int) (h : valid hi lo) : IntKind.u64.wrap (18446744073709551615 / 2 ^ (63 - hi + lo).toNat * 2 ^ lo.toNat) = onesV hi lo := by
  obtain ⟨l, n, rfl, rfl, hl⟩ := nats h
  have e1 : (63 - ((l : Int) + n) + l).toNat = 63 - n := by omega
  have e2 : 18446744073709551615 / 2 ^ (63 - n) = 2 ^ (n + 1) - 1 := by
    have hp : 2 ^ (63 - n) * 2 ^ (n + 1) = 2 ^ 64 := by rw [← Nat.pow_add]; congr 1; omega
    have h1 := pow_pos (63 - n)
    have h2 := pow_pos (n + 1)
    have h3 : 18446744073709551615 = (2 ^ (n + 1) - 1) * 2 ^ (63 - n) + (2 ^ (63 - n) - 1) := by
      rw [Nat.sub_mul, Nat.one_mul, Nat.mul_comm]
      have : 2 ^ (63 - n) ≤ 2 ^ (63 - n) * 2 ^ (n + 1) := Nat.le_mul_of_pos_right _ h2
      have e64 : (2 : Nat) ^ 64 = 18446744073709551616 := by decide
      omega
    conv => lhs; rw [h3]
    rw [Nat.add_comm, Nat.add_mul_div_right _ _ h1, Nat.div_eq_of_lt (by omega)]
    simp
  rw [ones_cast, e1, Int.toNat_natCast, IntKind.wrap_u64]
  have e3 : ((18446744073709551615 : Int) / 2 ^ (63 - n) * 2 ^ l) = ((18446744073709551615 / 2 ^ (63 - n) * 2 ^ l : Nat) : Int) := by simp
  rw [e3, e2]
  have := onesN l n hl
  have e64 : (2 : Nat) ^ 64 = 18446744073709551616 := by decide
  omega

theorem ones_bound (hi lo : Int) (h : valid hi lo) : 1 ≤ onesV hi lo ∧ onesV hi lo < 18446744073709551616 := by
  obtain ⟨l, n, rfl, rfl, hl⟩ := nats h
  rw [ones_cast]
  have := onesN l n hl
  have e64 : (2 : Nat) ^ 64 = 18446744073709551616 := by decide
  have h1 : 2 ≤ 2 ^ (n + 1) := by have := pow_pos n; rw [Nat.pow_succ]; omega
  have h2 := pow_pos l
  have h3 : 1 * 1 ≤ (2 ^ (n + 1) - 1) * 2 ^ l := Nat.mul_le_mul (by omega) h2
  omega

theorem get_val (x hi lo : Int) (h : valid hi lo) (x0 : 0 ≤ x) (x1 : x < 18446744073709551616) : bits .and .u64 x (onesV hi lo) / 2 ^ lo.toNat = getV x hi lo := by
  obtain ⟨l, n, rfl, rfl, hl⟩ := nats h
  obtain ⟨X, rfl⟩ := Int.eq_ofNat_of_zero_le x0
  have h1 := onesN l n hl
  have e64 : (2 : Nat) ^ 64 = 18446744073709551616 := by decide
  rw [ones_cast, get_cast, bits_and_u64_nat _ _ (by omega) (by omega), Int.toNat_natCast]
  have e : (X &&& (2 ^ (n + 1) - 1) * 2 ^ l) / 2 ^ l = X / 2 ^ l % 2 ^ (n + 1) := by
    rw [← Nat.shiftRight_eq_div_pow, ← Nat.shiftRight_eq_div_pow, Nat.shiftRight_and_distrib]
    rw [Nat.shiftRight_eq_div_pow ((2 ^ (n + 1) - 1) * 2 ^ l) l, Nat.mul_div_cancel _ (pow_pos l), Nat.and_two_pow_sub_one_eq_mod]
  rw [← e]; simp

theorem get_bound (x hi lo : Int) (h : valid hi lo) (x0 : 0 ≤ x) (x1 : x < 18446744073709551616) : 0 ≤ getV x hi lo ∧ getV x hi lo < 18446744073709551616 ∧ getV x hi lo ≤ x := by
  obtain ⟨l, n, rfl, rfl, hl⟩ := nats h
  obtain ⟨X, rfl⟩ := Int.eq_ofNat_of_zero_le x0
  rw [get_cast]
  have h1 : X / 2 ^ l % 2 ^ (n + 1) ≤ X := Nat.le_trans (Nat.mod_le _ _) (Nat.div_le_self _ _)
  omega


theorem sum_bits (X V l n i : Nat) (hV : V < 2 ^ (n + 1)) :
    (X % 2 ^ l + V * 2 ^ l + X / 2 ^ (l + n + 1) * 2 ^ (l + n + 1)).testBit i = if i < l then X.testBit i else if i < l + n + 1 then V.testBit (i - l) else X.testBit i := by
  have h1 : X % 2 ^ l < 2 ^ l := Nat.mod_lt _ (pow_pos l)
  have e1 : X % 2 ^ l + V * 2 ^ l = V <<< l ||| X % 2 ^ l := by
    rw [← Nat.shiftLeft_add_eq_or_of_lt h1, Nat.shiftLeft_eq]; omega
  have h2 : X % 2 ^ l + V * 2 ^ l < 2 ^ (l + n + 1) := by
    have : V * 2 ^ l ≤ (2 ^ (n + 1) - 1) * 2 ^ l := Nat.mul_le_mul_right _ (by omega)
    have e : 2 ^ (l + n + 1) = 2 ^ (n + 1) * 2 ^ l := by rw [← Nat.pow_add]; congr 1; omega
    have hp := pow_pos (n + 1)
    rw [Nat.sub_mul, Nat.one_mul] at this
    have : 2 ^ l ≤ 2 ^ (n + 1) * 2 ^ l := Nat.le_mul_of_pos_left _ hp
    omega
  have e2 : X % 2 ^ l + V * 2 ^ l + X / 2 ^ (l + n + 1) * 2 ^ (l + n + 1) = (X / 2 ^ (l + n + 1)) <<< (l + n + 1) ||| (V <<< l ||| X % 2 ^ l) := by
    rw [← e1, ← Nat.shiftLeft_add_eq_or_of_lt h2, Nat.shiftLeft_eq]; omega
  rw [e2]
  simp only [Nat.testBit_or, Nat.testBit_shiftLeft, Nat.testBit_mod_two_pow, Nat.testBit_div_two_pow]
  by_cases c1 : i < l
  · have c2 : ¬ l + n + 1 ≤ i := by omega
    have c3 : ¬ l ≤ i := by omega
    simp [c1, c2, c3]
  · by_cases c2 : i < l + n + 1
    · have c3 : ¬ l + n + 1 ≤ i := by omega
      have c4 : l ≤ i := by omega
      simp [c1, c2, c3, c4]
    · have c3 : l + n + 1 ≤ i := by omega
      have c4 : l ≤ i := by omega
      have hz : V.testBit (i - l) = false := Nat.testBit_lt_two_pow (Nat.lt_of_lt_of_le hV (Nat.pow_le_pow_right (by decide) (by omega)))
      have ei : i - (l + n + 1) + (l + n + 1) = i := by omega
      simp [c1, c2, c3, c4, hz, ei]

theorem mask_bits (l n i : Nat) : ((2 ^ (n + 1) - 1) * 2 ^ l).testBit i = (decide (l ≤ i) && decide (i < l + n + 1)) := by
  rw [← Nat.shiftLeft_eq, Nat.testBit_shiftLeft, Nat.testBit_two_pow_sub_one]
  by_cases c1 : l ≤ i
  · have : (i - l < n + 1) ↔ (i < l + n + 1) := by omega
    simp [c1, this]
  · simp [c1]

theorem putN (X V l n : Nat) (hl : l + n ≤ 63) (hX : X < 2 ^ 64) (hV : V < 2 ^ (n + 1)) :
    (X &&& (2 ^ 64 - 1 - (2 ^ (n + 1) - 1) * 2 ^ l)) ||| V * 2 ^ l = X % 2 ^ l + V * 2 ^ l + X / 2 ^ (l + n + 1) * 2 ^ (l + n + 1) := by
  apply Nat.eq_of_testBit_eq
  intro i
  have hM := onesN l n hl
  rw [sum_bits X V l n i hV, Nat.testBit_or, Nat.testBit_and, show 2 ^ 64 - 1 - (2 ^ (n + 1) - 1) * 2 ^ l = 2 ^ 64 - ((2 ^ (n + 1) - 1) * 2 ^ l + 1) by omega,
    Nat.testBit_two_pow_sub_succ hM, mask_bits, ← Nat.shiftLeft_eq V l, Nat.testBit_shiftLeft]
  by_cases c1 : i < l
  · have c3 : ¬ l ≤ i := by omega
    have c5 : i < 64 := by omega
    simp [c1, c3, c5]
  · have c4 : l ≤ i := by omega
    by_cases c2 : i < l + n + 1
    · have c5 : i < 64 := by omega
      simp [c1, c2, c4, c5]
    · have hz : V.testBit (i - l) = false := Nat.testBit_lt_two_pow (Nat.lt_of_lt_of_le hV (Nat.pow_le_pow_right (by decide) (by omega)))
      by_cases c5 : i < 64
      · simp [c1, c2, c4, c5, hz]
      · have hx : X.testBit i = false := Nat.testBit_lt_two_pow (Nat.lt_of_lt_of_le hX (Nat.pow_le_pow_right (by decide) (by omega)))
        simp [c1, c2, c4, c5, hz, hx]

theorem andNot_u64 (a b : Nat) (ha : a < 18446744073709551616) (hb : b < 18446744073709551616) :
    bits .andNot .u64 (a : Int) (b : Int) = ((a &&& (2 ^ 64 - 1 - b) : Nat) : Int) := by
  have hx : a &&& (2 ^ 64 - 1 - b) < 2 ^ 64 := Nat.and_lt_two_pow _ (by omega)
  have h1 : (BitVec.ofInt 64 (a : Int)).toNat = a := by rw [BitVec.ofInt_natCast, BitVec.toNat_ofNat]; exact Nat.mod_eq_of_lt (by omega)
  have h2 : (BitVec.ofInt 64 (b : Int)).toNat = b := by rw [BitVec.ofInt_natCast, BitVec.toNat_ofNat]; exact Nat.mod_eq_of_lt (by omega)
  show IntKind.u64.wrap ((BitVec.ofInt 64 (a : Int) &&& ~~~BitVec.ofInt 64 (b : Int)).toNat : Int) = _
  rw [BitVec.toNat_and, BitVec.toNat_not, h1, h2, IntKind.wrap_u64]
  omega

theorem put_cast (X V l n : Nat) : putV X (l + n) l V = ((X % 2 ^ l + V * 2 ^ l + X / 2 ^ (l + n + 1) * 2 ^ (l + n + 1) : Nat) : Int) := by
  have e1 : ((l : Int) + n + 1).toNat = l + n + 1 := by omega
  unfold putV
  rw [e1, Int.toNat_natCast]
  simp

theorem put_lt (X V l n : Nat) (hl : l + n ≤ 63) (hX : X < 2 ^ 64) (hV : V < 2 ^ (n + 1)) : X % 2 ^ l + V * 2 ^ l + X / 2 ^ (l + n + 1) * 2 ^ (l + n + 1) < 2 ^ 64 := by
  rw [← putN X V l n hl hX hV]
  refine Nat.or_lt_two_pow (Nat.and_lt_two_pow _ (by have := onesN l n hl; omega)) ?_
  have h1 := pow64 l n hl
  have : V * 2 ^ l < 2 ^ (n + 1) * 2 ^ l := Nat.mul_lt_mul_of_pos_right hV (pow_pos l)
  omega

theorem fit_nat {v : Int} {l n : Nat} (h : v < 2 ^ ((l : Int) + n - l + 1).toNat) (v0 : 0 ≤ v) : ∃ V : Nat, v = V ∧ V < 2 ^ (n + 1) := by
  have e1 : ((l : Int) + n - l + 1).toNat = n + 1 := by omega
  rw [e1] at h
  obtain ⟨V, rfl⟩ := Int.eq_ofNat_of_zero_le v0
  refine ⟨V, rfl, ?_⟩
  have e : (2 : Int) ^ (n + 1) = ((2 ^ (n + 1) : Nat) : Int) := by simp
  omega

theorem put_val (x hi lo v : Int) (h : valid hi lo) (x0 : 0 ≤ x) (x1 : x < 18446744073709551616) (v0 : 0 ≤ v) (v1 : v < 2 ^ (hi - lo + 1).toNat) :
    bits .or .u64 (bits .andNot .u64 x (onesV hi lo)) (IntKind.u64.wrap (v * 2 ^ lo.toNat)) = putV x hi lo v := by
  obtain ⟨l, n, rfl, rfl, hl⟩ := nats h
  obtain ⟨X, rfl⟩ := Int.eq_ofNat_of_zero_le x0
  obtain ⟨V, rfl, hV⟩ := fit_nat v1 v0
  have h1 := onesN l n hl
  have h2 := pow64 l n hl
  have h3 : V * 2 ^ l < 2 ^ (n + 1) * 2 ^ l := Nat.mul_lt_mul_of_pos_right hV (pow_pos l)
  have e64 : (2 : Nat) ^ 64 = 18446744073709551616 := by decide
  have e3 : ((V : Int) * 2 ^ l) = ((V * 2 ^ l : Nat) : Int) := by simp
  have h4 : X &&& (2 ^ 64 - 1 - (2 ^ (n + 1) - 1) * 2 ^ l) < 2 ^ 64 := Nat.and_lt_two_pow _ (by omega)
  have e4 : IntKind.u64.wrap ((V * 2 ^ l : Nat) : Int) = ((V * 2 ^ l : Nat) : Int) := by rw [IntKind.wrap_u64]; omega
  rw [ones_cast, put_cast, andNot_u64 _ _ (by omega) (by omega), Int.toNat_natCast, e3, e4, bits_or_u64_nat _ _ (by omega) (by omega), putN X V l n hl (by omega) hV]

theorem put_bound (x hi lo v : Int) (h : valid hi lo) (x0 : 0 ≤ x) (x1 : x < 18446744073709551616) (v0 : 0 ≤ v) (v1 : v < 2 ^ (hi - lo + 1).toNat) :
    0 ≤ putV x hi lo v ∧ putV x hi lo v < 18446744073709551616 := by
  obtain ⟨l, n, rfl, rfl, hl⟩ := nats h
  obtain ⟨X, rfl⟩ := Int.eq_ofNat_of_zero_le x0
  obtain ⟨V, rfl, hV⟩ := fit_nat v1 v0
  have e64 : (2 : Nat) ^ 64 = 18446744073709551616 := by decide
  have := put_lt X V l n hl (by omega) hV
  rw [put_cast]
  omega

/-- All bits that are 1 stand below. -/
theorem bits_lt (X n : Nat) : (∀ i, X.testBit i = true → i < n) ↔ X < 2 ^ n := by
  constructor
  · intro h
    by_cases hx : X < 2 ^ n
    · exact hx
    · obtain ⟨i, hi, hb⟩ := Nat.exists_ge_and_testBit_of_ge_two_pow (Nat.le_of_not_lt hx)
      have := h i hb
      omega
  · intro h i hb
    by_cases hi : i < n
    · exact hi
    · rw [Nat.testBit_lt_two_pow (Nat.lt_of_lt_of_le h (Nat.pow_le_pow_right (by decide) (by omega)))] at hb
      cases hb

theorem sign_val (x hi : Int) (h0 : 0 ≤ hi) (h1 : hi ≤ 63) (x0 : 0 ≤ x) : wrap64 (IntKind.u64.wrap (x * 2 ^ (63 - hi).toNat)) / 2 ^ (63 - hi).toNat = signV x hi := by
  obtain ⟨H, rfl⟩ := Int.eq_ofNat_of_zero_le h0
  obtain ⟨X, rfl⟩ := Int.eq_ofNat_of_zero_le x0
  obtain ⟨c, hc⟩ : ∃ c, c + H = 63 := ⟨63 - H, by omega⟩
  have e1 : (63 - (H : Int)).toNat = c := by omega
  have e2 : ((H : Int) + 1).toNat = H + 1 := by omega
  have e64 : (2 : Nat) ^ 64 = 2 ^ c * 2 ^ (H + 1) := by rw [← Nat.pow_add]; congr 1; omega
  have e63 : (2 : Nat) ^ 63 = 2 ^ c * 2 ^ H := by rw [← Nat.pow_add]; congr 1; omega
  have n64 : (2 : Nat) ^ 64 = 18446744073709551616 := by decide
  have n63 : (2 : Nat) ^ 63 = 9223372036854775808 := by decide
  have hm : X * 2 ^ c % 2 ^ 64 = 2 ^ c * (X % 2 ^ (H + 1)) := by rw [e64, Nat.mul_comm X, Nat.mul_mod_mul_left]
  have eX : ((X : Int) * 2 ^ c) = ((X * 2 ^ c : Nat) : Int) := by simp
  have eW : IntKind.u64.wrap ((X * 2 ^ c : Nat) : Int) = ((2 ^ c * (X % 2 ^ (H + 1)) : Nat) : Int) := by
    rw [IntKind.wrap_u64, ← hm, n64]; omega
  have hr : X % 2 ^ (H + 1) < 2 ^ (H + 1) := Nat.mod_lt _ (pow_pos _)
  have hp := pow_pos c
  have eR : ((X : Int) % 2 ^ (H + 1)) = ((X % 2 ^ (H + 1) : Nat) : Int) := by simp
  have eP : (2 : Int) ^ (H + 1) = ((2 ^ (H + 1) : Nat) : Int) := by simp
  have eQ : (2 : Int) ^ H = ((2 ^ H : Nat) : Int) := by simp
  have eC : (2 : Int) ^ c = ((2 ^ c : Nat) : Int) := by simp
  have c0 : ((2 ^ c : Nat) : Int) ≠ 0 := by omega
  unfold signV
  rw [e1, e2, eX, eW, Int.toNat_natCast, eR, eP, eQ, eC]
  generalize X % 2 ^ (H + 1) = r at *
  by_cases hs : 2 ^ H ≤ r
  · have h2 : 2 ^ c * 2 ^ H ≤ 2 ^ c * r := Nat.mul_le_mul_left _ hs
    have h3 : 2 ^ c * r < 2 ^ c * 2 ^ (H + 1) := Nat.mul_lt_mul_of_pos_left hr hp
    have e : wrap64 ((2 ^ c * r : Nat) : Int) = ((2 ^ c : Nat) : Int) * ((r : Int) - ((2 ^ (H + 1) : Nat) : Int)) := by
      have : ((2 ^ c : Nat) : Int) * ((r : Int) - ((2 ^ (H + 1) : Nat) : Int)) = ((2 ^ c * r : Nat) : Int) - ((2 ^ c * 2 ^ (H + 1) : Nat) : Int) := by rw [Int.mul_sub]; simp
      rw [this]; unfold wrap64; omega
    rw [e, Int.mul_ediv_cancel_left _ c0, if_pos (by omega)]
  · have h2 : 2 ^ c * r < 2 ^ c * 2 ^ H := Nat.mul_lt_mul_of_pos_left (by omega) hp
    have e : wrap64 ((2 ^ c * r : Nat) : Int) = ((2 ^ c : Nat) : Int) * (r : Int) := by
      have : ((2 ^ c : Nat) : Int) * (r : Int) = ((2 ^ c * r : Nat) : Int) := by simp
      rw [this]; unfold wrap64; omega
    rw [e, Int.mul_ediv_cancel_left _ c0, if_neg (by omega)]

def fitsB (v hi lo : Int) : Bool := decide (valid hi lo ∧ v < 2 ^ (hi - lo + 1).toNat)

/-- A field put into a word, in natural numbers. -/
def pN (X l n V : Nat) : Nat := X % 2 ^ l + V * 2 ^ l + X / 2 ^ (l + n + 1) * 2 ^ (l + n + 1)

theorem get_pN (X V l n : Nat) (hV : V < 2 ^ (n + 1)) : pN X l n V / 2 ^ l % 2 ^ (n + 1) = V := by
  apply Nat.eq_of_testBit_eq
  intro i
  rw [Nat.testBit_mod_two_pow, Nat.testBit_div_two_pow, pN, sum_bits X V l n _ hV]
  by_cases c : i < n + 1
  · have c1 : ¬ i + l < l := by omega
    have c2 : i + l < l + n + 1 := by omega
    simp [c, c1, c2]
  · have hz : V.testBit i = false := Nat.testBit_lt_two_pow (Nat.lt_of_lt_of_le hV (Nat.pow_le_pow_right (by decide) (by omega)))
    simp [c, hz]

theorem andNot_pN (X V l n : Nat) (hl : l + n ≤ 63) (hV : V < 2 ^ (n + 1)) :
    pN X l n V &&& (2 ^ 64 - 1 - (2 ^ (n + 1) - 1) * 2 ^ l) = X &&& (2 ^ 64 - 1 - (2 ^ (n + 1) - 1) * 2 ^ l) := by
  apply Nat.eq_of_testBit_eq
  intro i
  have hM := onesN l n hl
  rw [Nat.testBit_and, Nat.testBit_and, pN, sum_bits X V l n _ hV, show 2 ^ 64 - 1 - (2 ^ (n + 1) - 1) * 2 ^ l = 2 ^ 64 - ((2 ^ (n + 1) - 1) * 2 ^ l + 1) by omega,
    Nat.testBit_two_pow_sub_succ hM, mask_bits]
  by_cases c1 : i < l
  · simp [c1]
  · by_cases c2 : i < l + n + 1
    · have c3 : l ≤ i := by omega
      simp [c1, c2, c3]
    · simp [c1, c2]

/-- Fields apart. -/
theorem apart_N (l n l' n' : Nat) (h : (2 ^ (n + 1) - 1) * 2 ^ l &&& (2 ^ (n' + 1) - 1) * 2 ^ l' = 0) (i : Nat) : ¬ ((l ≤ i ∧ i < l + n + 1) ∧ (l' ≤ i ∧ i < l' + n' + 1)) := by
  rintro ⟨⟨a1, a2⟩, a3, a4⟩
  have := congrArg (fun x => Nat.testBit x i) h
  simp only [Nat.testBit_and, mask_bits] at this
  simp [a1, a2, a3, a4] at this

theorem comm_pN (X V W l n l' n' : Nat) (hV : V < 2 ^ (n + 1)) (hW : W < 2 ^ (n' + 1)) (h : (2 ^ (n + 1) - 1) * 2 ^ l &&& (2 ^ (n' + 1) - 1) * 2 ^ l' = 0) :
    pN (pN X l n V) l' n' W = pN (pN X l' n' W) l n V := by
  apply Nat.eq_of_testBit_eq
  intro i
  have ha := apart_N l n l' n' h i
  rw [pN, sum_bits _ W l' n' _ hW, pN, sum_bits X V l n _ hV, pN, sum_bits _ V l n _ hV, pN, sum_bits X W l' n' _ hW]
  by_cases c1 : i < l <;> by_cases c2 : i < l + n + 1 <;> by_cases c3 : i < l' <;> by_cases c4 : i < l' + n' + 1 <;> first | (exfalso; omega) | simp [c1, c2, c3, c4]

theorem get_put (x hi lo v : Int) (h : valid hi lo) (x0 : 0 ≤ x) (v0 : 0 ≤ v) (v1 : v < 2 ^ (hi - lo + 1).toNat) : getV (putV x hi lo v) hi lo = v := by
  obtain ⟨l, n, rfl, rfl, hl⟩ := nats h
  obtain ⟨X, rfl⟩ := Int.eq_ofNat_of_zero_le x0
  obtain ⟨V, rfl, hV⟩ := fit_nat v1 v0
  have := get_pN X V l n hV
  rw [put_cast, get_cast]
  unfold pN at this
  rw [this]

theorem andNot_put (x hi lo v : Int) (h : valid hi lo) (x0 : 0 ≤ x) (x1 : x < 18446744073709551616) (v0 : 0 ≤ v) (v1 : v < 2 ^ (hi - lo + 1).toNat) :
    bits .andNot .u64 (putV x hi lo v) (onesV hi lo) = bits .andNot .u64 x (onesV hi lo) := by
  obtain ⟨l, n, rfl, rfl, hl⟩ := nats h
  obtain ⟨X, rfl⟩ := Int.eq_ofNat_of_zero_le x0
  obtain ⟨V, rfl, hV⟩ := fit_nat v1 v0
  have e64 : (2 : Nat) ^ 64 = 18446744073709551616 := by decide
  have h1 := onesN l n hl
  have h2 := put_lt X V l n hl (by omega) hV
  have h3 := andNot_pN X V l n hl hV
  unfold pN at h3
  rw [put_cast, ones_cast, andNot_u64 _ _ (by omega) (by omega), andNot_u64 _ _ (by omega) (by omega), h3]

theorem put_comm (x hi lo top low v w : Int) (h : valid hi lo) (h' : valid top low) (x0 : 0 ≤ x) (x1 : x < 18446744073709551616) (v0 : 0 ≤ v) (v1 : v < 2 ^ (hi - lo + 1).toNat)
    (w0 : 0 ≤ w) (w1 : w < 2 ^ (top - low + 1).toNat) (ha : bits .and .u64 (onesV hi lo) (onesV top low) = 0) : putV (putV x hi lo v) top low w = putV (putV x top low w) hi lo v := by
  obtain ⟨l, n, rfl, rfl, hl⟩ := nats h
  obtain ⟨l', n', rfl, rfl, hl'⟩ := nats h'
  obtain ⟨X, rfl⟩ := Int.eq_ofNat_of_zero_le x0
  obtain ⟨V, rfl, hV⟩ := fit_nat v1 v0
  obtain ⟨W, rfl, hW⟩ := fit_nat w1 w0
  have e64 : (2 : Nat) ^ 64 = 18446744073709551616 := by decide
  have h1 := onesN l n hl
  have h2 := onesN l' n' hl'
  rw [ones_cast, ones_cast, bits_and_u64_nat _ _ (by omega) (by omega)] at ha
  have := comm_pN X V W l n l' n' hV hW (by omega)
  unfold pN at this
  rw [put_cast, put_cast, put_cast, put_cast, this]

end Go.Proofs.Ytcjklghjnbhcdaa
