/- What the reference's functions of fields come to: the same numbers. -/
import Derived.Test.YtcjklghjnbhcdaaWField
import Derived.Test.YtcjklghjnbhcdaaWBit
namespace Go.Proofs.Ytcjklghjnbhcdaa
open Go.RowKit

def bitV (x k : Int) : Int := x / 2 ^ k.toNat % 2

theorem and_one (x k : Int) (x0 : 0 ≤ x) (x1 : x < 18446744073709551616) : bits .and .u64 (x / 2 ^ k.toNat) 1 = bitV x k := by
  obtain ⟨X, rfl⟩ := Int.eq_ofNat_of_zero_le x0
  have h := bit_one X k.toNat (by omega)
  rw [h, bitV]
  rw [Nat.testBit_eq_decide_div_mod_eq]
  have e : ((X : Int) / 2 ^ k.toNat % 2) = ((X / 2 ^ k.toNat % 2 : Nat) : Int) := by simp
  rw [e]
  have h2 : X / 2 ^ k.toNat % 2 = 0 ∨ X / 2 ^ k.toNat % 2 = 1 := by omega
  rcases h2 with h | h <;> simp [h]

theorem bit_any (x k : Int) (x0 : 0 ≤ x) (x1 : x < 18446744073709551616) (k0 : 0 ≤ k) (k1 : k ≤ 63) (w : World) :
    Calls Try.prog 89 #[.int .u64 x, .int .i64 k] w fun e w' => e = .returned (.int .u64 (bitV x k)) ∧ ∃ x, w' = ext w x := by
  have h := and_one x k x0 x1
  go_enter Try.func89, Try.ntmps89
  go_wp2
  go_ret
  exact ⟨by simp, up_to⟩

theorem is_any (hi lo : Int) (w : World) :
    Calls Try.prog 88 #[.int .i64 hi, .int .i64 lo] w fun e w' => e = .returned (.bool (decide (valid hi lo))) ∧ ∃ x, w' = ext w x := by
  by_cases c1 : 0 ≤ lo <;> by_cases c2 : lo ≤ hi <;> by_cases c3 : hi ≤ 63
  all_goals
    go_enter Try.func88, Try.ntmps88
    go_wp2
    go_ret
    refine ⟨ret_bool ?_, up_to⟩
    first | (simp [valid, c1, c2, c3]; done) | (simp [valid]; omega)

/-- One bit more behind what has been read. -/
theorem or_bit (a b : Int) (a0 : 0 ≤ a) (a1 : a < 9223372036854775808) (b0 : 0 ≤ b) (b1 : b ≤ 1) : bits .or .u64 (IntKind.u64.wrap (a * 2)) b = a * 2 + b := by
  obtain ⟨A, rfl⟩ := Int.eq_ofNat_of_zero_le a0
  obtain ⟨B, rfl⟩ := Int.eq_ofNat_of_zero_le b0
  have h := Nat.shiftLeft_add_eq_or_of_lt (b := B) (i := 1) (by omega) A
  rw [Nat.shiftLeft_eq] at h
  have e : IntKind.u64.wrap ((A : Int) * 2) = ((A * 2 : Nat) : Int) := by rw [IntKind.wrap_u64]; omega
  rw [e, bits_or_u64_nat _ _ (by omega) (by omega)]
  have h' : A * 2 ||| B = A * 2 + B := by rw [show (2 : Nat) = 2 ^ 1 by decide]; exact h.symm
  rw [h']; simp

theorem bit_le (x k : Int) : 0 ≤ bitV x k ∧ bitV x k ≤ 1 := by unfold bitV; omega

theorem step_or (G j : Nat) (hG : G < 18446744073709551616) : bits .or .u64 (IntKind.u64.wrap (((G / 2 ^ (j + 1) : Nat) : Int) * 2)) ((G / 2 ^ j % 2 : Nat) : Int) = ((G / 2 ^ j : Nat) : Int) := by
  have h1 : G / 2 ^ (j + 1) = G / 2 ^ j / 2 := by rw [Nat.pow_succ, Nat.div_div_eq_div_mul]
  have h2 := Nat.div_le_self G (2 ^ j)
  rw [h1]
  generalize G / 2 ^ j = q at *
  rw [or_bit _ _ (by omega) (by omega) (by omega) (by omega)]
  omega

theorem bit_get (X l n j : Nat) (hj : j ≤ n) : bitV X ((l + j : Nat) : Int) = ((X / 2 ^ l % 2 ^ (n + 1) / 2 ^ j % 2 : Nat) : Int) := by
  have ht : (X / 2 ^ l % 2 ^ (n + 1) / 2 ^ j) % 2 = X / 2 ^ (l + j) % 2 := by
    have := congrArg Bool.toNat (show (X / 2 ^ l % 2 ^ (n + 1)).testBit j = X.testBit (l + j) by
      rw [Nat.testBit_mod_two_pow, Nat.testBit_div_two_pow, Nat.add_comm j l]; simp; omega)
    rw [Nat.toNat_testBit, Nat.toNat_testBit] at this
    exact this
  rw [ht, bitV, Int.toNat_natCast]; simp

theorem step_get (X l n k : Nat) (h1 : l ≤ k) (h2 : k ≤ l + n) (hX : X < 18446744073709551616) :
    bits .or .u64 (IntKind.u64.wrap (((X / 2 ^ l % 2 ^ (n + 1) / 2 ^ (k + 1 - l) : Nat) : Int) * 2)) (bitV X k) = ((X / 2 ^ l % 2 ^ (n + 1) / 2 ^ (k - l) : Nat) : Int) := by
  obtain ⟨j, rfl⟩ : ∃ j, k = l + j := ⟨k - l, by omega⟩
  have hg : X / 2 ^ l % 2 ^ (n + 1) ≤ X := Nat.le_trans (Nat.mod_le _ _) (Nat.div_le_self _ _)
  have e1 : l + j + 1 - l = j + 1 := by omega
  have e2 : l + j - l = j := by omega
  rw [e1, e2, bit_get X l n j (by omega)]
  exact step_or _ j (by omega)

set_option maxHeartbeats 1000000 in
theorem refGet_any (x hi lo : Int) (x0 : 0 ≤ x) (x1 : x < 18446744073709551616) (w : World) :
    Calls Try.prog 70 #[.int .u64 x, .int .i64 hi, .int .i64 lo] w fun e w' => e = .returned (.int .u64 (getOr x hi lo)) ∧ ∃ x, w' = ext w x := by
  by_cases h : valid hi lo
  · have hv : decide (valid hi lo) = true := by simpa using h
    rw [getOr, if_pos h]
    obtain ⟨l, n, rfl, rfl, hl⟩ := nats h
    obtain ⟨X, rfl⟩ := Int.eq_ofNat_of_zero_le x0
    rw [get_cast]
    clear h
    go_enter Try.func70, Try.ntmps70
    go_wp2_with (go_at_call 88; refine (is_any _ _ _).mono ?_; rintro e w' ⟨rfl, x, rfl⟩)
    go_loopw [7, 8] (fun v k wr => ∃ (j : Nat) (V : Int), l ≤ j ∧ j ≤ l + n + 1 ∧ k = .int .i64 ((j : Int) - 1) ∧ v = .int .u64 V ∧ Hid (V = ((X / 2 ^ l % 2 ^ (n + 1) / 2 ^ (j - l) : Nat) : Int)) ∧ ∃ y, wr = ext w y) (fun _ k _ => (intOf k + 1).toNat)
    case atStart =>
      refine ⟨l + n + 1, 0, by omega, by omega, by go_num, rfl, ?_, up_to⟩
      have : X / 2 ^ l % 2 ^ (n + 1) / 2 ^ (l + n + 1 - l) = 0 := by
        rw [show l + n + 1 - l = n + 1 by omega]; exact Nat.div_eq_of_lt (Nat.mod_lt _ (pow_pos _))
      unfold Hid
      rw [this]; rfl
    case round =>
      obtain ⟨j, V, hj1, hj2, rfl, rfl, hV, y, rfl⟩ := hrel
      by_cases hj : j = l
      · subst hj
        have hlt : ¬ (j : Int) ≤ (j : Int) - 1 := by omega
        go_wp2_with (fail)
        go_ret; exact ⟨ret_int (by rw [hV.out]; simp), up_to⟩
      · obtain ⟨k, rfl⟩ : ∃ k, j = k + 1 := ⟨j - 1, by omega⟩
        have hs := step_get X l n k (by omega) (by omega) (by omega)
        rw [← hV.out] at hs
        obtain ⟨V', hV'⟩ : ∃ V', V' = ((X / 2 ^ l % 2 ^ (n + 1) / 2 ^ (k - l) : Nat) : Int) := ⟨_, rfl⟩
        rw [← hV'] at hs
        have HV := Lib.hid hV'; clear hV'
        have hk : ((k + 1 : Nat) : Int) - 1 = k := by omega
        rw [hk]
        have hlt : (l : Int) ≤ k := by omega
        clear hk hj
        have HL : Hid (l ≤ k) := by unfold Hid; omega
        go_wp2_with (go_at_call 89; refine (bit_any _ _ x0 x1 (by omega) (by omega) _).mono ?_; rintro e w' ⟨rfl, x, rfl⟩)
        go_roundw
        case rel => exact ⟨k, V', HL.out, by omega, by go_num, by simp, HV, up_to⟩
        case measure => simp [intOf]
  · have hv : decide (valid hi lo) = false := by simpa using h
    rw [getOr, if_neg h]
    clear h
    go_enter Try.func70, Try.ntmps70
    go_wp2_with (go_at_call 88; refine (is_any _ _ _).mono ?_; rintro e w' ⟨rfl, x, rfl⟩)
    go_ret; exact ⟨rfl, up_to⟩

end Go.Proofs.Ytcjklghjnbhcdaa
