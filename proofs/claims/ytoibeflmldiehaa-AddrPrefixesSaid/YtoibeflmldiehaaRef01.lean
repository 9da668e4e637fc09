/- What the reference's functions of fields come to: the same numbers. -/
import Derived.Test.YtoibeflmldiehaaField
namespace Go.Proofs.Ytoibeflmldiehaa
open Go.RowKit

def bitV (x k : Int) : Int := x / 2 ^ k.toNat % 2

theorem and_one (x k : Int) (x0 : 0 ≤ x) (x1 : x < 18446744073709551616) : bits .and .u64 (x / 2 ^ k.toNat) 1 = bitV x k := by
  obtain ⟨X, rfl⟩ := Int.eq_ofNat_of_zero_le x0
  have h := bit_one X k.toNat (by omega)
  rw [h, bitV]
  rw [Nat.testBit_eq_decide_div_mod_eq]
  have e : ((X : Int) / 2 ^ k.toNat % 2) = ((X / 2 ^ k.toNat % 2 : Nat) : Int) := by simp
  rw [e]
  have h2 : X / 2 ^ k.toNat % 2 = 0 ∨ X / 2 ^ k.toNat % 2 = 1 := by omega
  rcases h2 with h | h <;> simp [h]

theorem bit_any (x k : Int) (x0 : 0 ≤ x) (x1 : x < 18446744073709551616) (k0 : 0 ≤ k) (k1 : k ≤ 63) (w : World) :
    Calls Try.prog 59 #[.int .u64 x, .int .i64 k] w fun e w' => e = .returned (.int .u64 (bitV x k)) ∧ ∃ x, w' = ext w x := by
  have h := and_one x k x0 x1
  go_enter Try.func59, Try.ntmps59
  go_wp2
  go_ret
  exact ⟨by simp, up_to⟩

theorem is_any (hi lo : Int) (w : World) :
    Calls Try.prog 62 #[.int .i64 hi, .int .i64 lo] w fun e w' => e = .returned (.bool (decide (valid hi lo))) ∧ ∃ x, w' = ext w x := by
  by_cases c1 : 0 ≤ lo <;> by_cases c2 : lo ≤ hi <;> by_cases c3 : hi ≤ 63
  all_goals
    go_enter Try.func62, Try.ntmps62
    go_wp2
    go_ret
    refine ⟨ret_bool ?_, up_to⟩
    first | (simp [valid, c1, c2, c3]; done) | (simp [valid]; omega)

/-- One bit more behind what has been read. -/
theorem or_bit (a b : Int) (a0 : 0 ≤ a) (a1 : a < 9223372036854775808) (b0 : 0 ≤ b) (b1 : b ≤ 1) : bits .or .u64 (IntKind.u64.wrap (a * 2)) b = a * 2 + b := by
  obtain ⟨A, rfl⟩ := Int.eq_ofNat_of_zero_le a0
  obtain ⟨B, rfl⟩ := Int.eq_ofNat_of_zero_le b0
  have h := Nat.shiftLeft_add_eq_or_of_lt (b := B) (i := 1) (by omega) A
  rw [Nat.shiftLeft_eq] at h
  have e : IntKind.u64.wrap ((A : Int) * 2) = ((A * 2 : Nat) : Int) := by rw [IntKind.wrap_u64]; omega
  rw [e, bits_or_u64_nat _ _ (by omega) (by omega)]
  have h' : A * 2 ||| B = A * 2 + B := by rw [show (2 : Nat) = 2 ^ 1 by decide]; exact h.symm
  rw [h']; simp

theorem bit_le (x k : Int) : 0 ≤ bitV x k ∧ bitV x k ≤ 1 := by unfold bitV; omega

theorem step_or (G j : Nat) (hG : G < 18446744073709551616) : bits .or .u64 (IntKind.u64.wrap (((G / 2 ^ (j + 1) : Nat) : Int) * 2)) ((G / 2 ^ j % 2 : Nat) : Int) = ((G / 2 ^ j : Nat) : Int) := by
  have h1 : G / 2 ^ (j + 1) = G / 2 ^ j / 2 := by rw [Nat.pow_succ, Nat.div_div_eq_div_mul]
  have h2 := Nat.div_le_self G (2 ^ j)
  rw [h1]
  generalize G / 2 ^ j = q at *
  rw [or_bit _ _ (by omega) (by omega) (by omega) (by omega)]
  omega

theorem bit_get (X l n j : Nat) (hj : j ≤ n) : bitV X ((l + j : Nat) : Int) = ((X / 2 ^ l % 2 ^ (n + 1) / 2 ^ j % 2 : Nat) : Int) := by
  have ht : (X / 2 ^ l % 2 ^ (n + 1) / 2 ^ j) % 2 = X / 2 ^ (l + j) % 2 := by
    have := congrArg Bool.toNat (show (X / 2 ^ l % 2 ^ (n + 1)).testBit j = X.testBit (l + j) by
      rw [Nat.testBit_mod_two_pow, Nat.testBit_div_two_pow, Nat.add_comm j l]; simp; omega)
    rw [Nat.toNat_testBit, Nat.toNat_testBit] at this
    exact this
  rw [ht, bitV, Int.toNat_natCast]; simp

theorem step_get (X l n k : Nat) (h1 : l ≤ k) (h2 : k ≤ l + n) (hX : X < 18446744073709551616) :
    bits .or .u64 (IntKind.u64.wrap (((X / 2 ^ l % 2 ^ (n + 1) / 2 ^ (k + 1 - l) : Nat) : Int) * 2)) (bitV X k) = ((X / 2 ^ l % 2 ^ (n + 1) / 2 ^ (k - l) : Nat) : Int) := by
  obtain ⟨j, rfl⟩ : ∃ j, k = l + j := ⟨k - l, by omega⟩
  have hg : X / 2 ^ l % 2 ^ (n + 1) ≤ X := Nat.le_trans (Nat.mod_le _ _) (Nat.div_le_self _ _)
  have e1 : l + j + 1 - l = j + 1 := by omega
  have e2 : l + j - l = j := by omega
  rw [e1, e2, bit_get X l n j (by omega)]
  exact step_or _ j (by omega)

set_option maxHeartbeats 1000000 in
theorem refGet_any (x hi lo : Int) (x0 : 0 ≤ x) (x1 : x < 18446744073709551616) (w : World) :
    Calls Try.prog 33 #[.int .u64 x, .int .i64 hi, .int .i64 lo] w fun e w' => e = .returned (.int .u64 (getOr x hi lo)) ∧ ∃ x, w' = ext w x := by
  by_cases h : valid hi lo
  · have hv : decide (valid hi lo) = true := by simpa using h
    rw [getOr, if_pos h]
    obtain ⟨l, n, rfl, rfl, hl⟩ := nats h
    obtain ⟨X, rfl⟩ := Int.eq_ofNat_of_zero_le x0
    rw [get_cast]
    clear h
    go_enter Try.func33, Try.ntmps33
    go_wp2_with (go_at_call 62; refine (is_any _ _ _).mono ?_; rintro e w' ⟨rfl, x, rfl⟩)
    go_loopw [7, 8] (fun v k wr => ∃ (j : Nat) (V : Int), l ≤ j ∧ j ≤ l + n + 1 ∧ k = .int .i64 ((j : Int) - 1) ∧ v = .int .u64 V ∧ Hid (V = ((X / 2 ^ l % 2 ^ (n + 1) / 2 ^ (j - l) : Nat) : Int)) ∧ ∃ y, wr = ext w y) (fun _ k _ => (intOf k + 1).toNat)
    case atStart =>
      refine ⟨l + n + 1, 0, by omega, by omega, by go_num, rfl, ?_, up_to⟩
      have : X / 2 ^ l % 2 ^ (n + 1) / 2 ^ (l + n + 1 - l) = 0 := by
        rw [show l + n + 1 - l = n + 1 by omega]; exact Nat.div_eq_of_lt (Nat.mod_lt _ (pow_pos _))
      unfold Hid
      rw [this]; rfl
    case round =>
      obtain ⟨j, V, hj1, hj2, rfl, rfl, hV, y, rfl⟩ := hrel
      by_cases hj : j = l
      · subst hj
        have hlt : ¬ (j : Int) ≤ (j : Int) - 1 := by omega
        go_wp2_with (fail)
        go_ret; exact ⟨ret_int (by rw [hV.out]; simp), up_to⟩
      · obtain ⟨k, rfl⟩ : ∃ k, j = k + 1 := ⟨j - 1, by omega⟩
        have hs := step_get X l n k (by omega) (by omega) (by omega)
        rw [← hV.out] at hs
        obtain ⟨V', hV'⟩ : ∃ V', V' = ((X / 2 ^ l % 2 ^ (n + 1) / 2 ^ (k - l) : Nat) : Int) := ⟨_, rfl⟩
        rw [← hV'] at hs
        have HV := Lib.hid hV'; clear hV'
        have hk : ((k + 1 : Nat) : Int) - 1 = k := by omega
        rw [hk]
        have hlt : (l : Int) ≤ k := by omega
        clear hk hj
        have HL : Hid (l ≤ k) := by unfold Hid; omega
        go_wp2_with (go_at_call 59; refine (bit_any _ _ x0 x1 (by omega) (by omega) _).mono ?_; rintro e w' ⟨rfl, x, rfl⟩)
        go_roundw
        case rel => exact ⟨k, V', HL.out, by omega, by go_num, by simp, HV, up_to⟩
        case measure => simp [intOf]
  · have hv : decide (valid hi lo) = false := by simpa using h
    rw [getOr, if_neg h]
    clear h
    go_enter Try.func33, Try.ntmps33
    go_wp2_with (go_at_call 62; refine (is_any _ _ _).mono ?_; rintro e w' ⟨rfl, x, rfl⟩)
    go_ret; exact ⟨rfl, up_to⟩

theorem step_ones (l j : Nat) (hj : l + j ≤ 63) : bits .or .u64 (((2 ^ j - 1) * 2 ^ l : Nat) : Int) (IntKind.u64.wrap (2 ^ (l + j))) = (((2 ^ (j + 1) - 1) * 2 ^ l : Nat) : Int) := by
  have e64 : (2 : Nat) ^ 64 = 18446744073709551616 := by decide
  have hp : (2 : Nat) ^ (l + j) < 2 ^ 64 := Nat.pow_lt_pow_right (by decide) (by omega)
  have hq : (2 : Nat) ^ (l + j) = 2 ^ j * 2 ^ l := by rw [← Nat.pow_add]; congr 1; omega
  have h1 := pow_pos j
  have h2 := pow_pos l
  have hm : (2 ^ j - 1) * 2 ^ l < 2 ^ (l + j) := by
    rw [Nat.sub_mul, Nat.one_mul, hq]
    have : 2 ^ l ≤ 2 ^ j * 2 ^ l := Nat.le_mul_of_pos_left _ h1
    omega
  have e1 : (2 : Int) ^ (l + j) = ((2 ^ (l + j) : Nat) : Int) := by simp
  have e2 : IntKind.u64.wrap ((2 ^ (l + j) : Nat) : Int) = ((2 ^ (l + j) : Nat) : Int) := by rw [IntKind.wrap_u64]; omega
  rw [e1, e2, bits_or_u64_nat _ _ (by omega) (by omega)]
  have h := Nat.shiftLeft_add_eq_or_of_lt hm 1
  rw [Nat.one_shiftLeft, Nat.or_comm] at h
  rw [← h]
  have : (2 ^ (j + 1) - 1) * 2 ^ l = 2 ^ (l + j) + (2 ^ j - 1) * 2 ^ l := by
    rw [Nat.sub_mul, Nat.sub_mul, Nat.one_mul, Nat.pow_succ, hq]
    have : 2 ^ l ≤ 2 ^ j * 2 ^ l := Nat.le_mul_of_pos_left _ h1
    have : 2 ^ j * 2 * 2 ^ l = 2 ^ j * 2 ^ l + 2 ^ j * 2 ^ l := by rw [Nat.mul_comm (2 ^ j) 2, Nat.mul_assoc]; omega
    omega
  rw [this]

set_option maxHeartbeats 1000000 in
theorem refOnes_any (hi lo : Int) (w : World) :
    Calls Try.prog 35 #[.int .i64 hi, .int .i64 lo] w fun e w' => e = .returned (.int .u64 (onesOr hi lo)) ∧ ∃ x, w' = ext w x := by
  by_cases h : valid hi lo
  · have hv : decide (valid hi lo) = true := by simpa using h
    rw [onesOr, if_pos h]
    obtain ⟨l, n, rfl, rfl, hl⟩ := nats h
    rw [ones_cast]
    clear h
    go_enter Try.func35, Try.ntmps35
    go_wp2_with (go_at_call 62; refine (is_any _ _ _).mono ?_; rintro e w' ⟨rfl, x, rfl⟩)
    go_loopw [5, 6] (fun v k wr => ∃ (j : Nat) (V : Int), j ≤ n + 1 ∧ k = .int .i64 ((l + j : Nat) : Int) ∧ v = .int .u64 V ∧ Hid (V = (((2 ^ j - 1) * 2 ^ l : Nat) : Int)) ∧ ∃ y, wr = ext w y) (fun _ k _ => (64 - intOf k).toNat)
    case atStart =>
      exact ⟨0, 0, by omega, by simp, rfl, by unfold Hid; simp, up_to⟩
    case round =>
      obtain ⟨j, V, hj, rfl, rfl, hV, y, rfl⟩ := hrel
      by_cases hjn : j = n + 1
      · subst hjn
        go_wp2_with (fail)
        go_ret; exact ⟨ret_int (by simp; exact hV.out), up_to⟩
      · have hs := step_ones l j (by omega)
        rw [← hV.out] at hs
        obtain ⟨V', hV'⟩ : ∃ V', V' = (((2 ^ (j + 1) - 1) * 2 ^ l : Nat) : Int) := ⟨_, rfl⟩
        rw [← hV'] at hs
        have HV := Lib.hid hV'; clear hV'
        go_wp2_with (fail)
        go_roundw
        case rel => exact ⟨j + 1, V', by omega, by go_num, rfl, HV, up_to⟩
        case measure => simp [intOf]; omega
  · have hv : decide (valid hi lo) = false := by simpa using h
    rw [onesOr, if_neg h]
    clear h
    go_enter Try.func35, Try.ntmps35
    go_wp2_with (go_at_call 62; refine (is_any _ _ _).mono ?_; rintro e w' ⟨rfl, x, rfl⟩)
    go_ret; exact ⟨rfl, up_to⟩

theorem bitV_eq (X k : Nat) : bitV X k = if X.testBit k then 1 else 0 := by
  rw [bitV, Int.toNat_natCast, Nat.testBit_eq_decide_div_mod_eq]
  have e : ((X : Int) / 2 ^ k % 2) = ((X / 2 ^ k % 2 : Nat) : Int) := by simp
  rw [e]
  have h2 : X / 2 ^ k % 2 = 0 ∨ X / 2 ^ k % 2 = 1 := by omega
  rcases h2 with h | h <;> simp [h]

theorem fits_of (X l n : Nat) (hl : l + n ≤ 63) (hX : X < 18446744073709551616) (h : ∀ i, n + 1 ≤ i → i < 64 → X.testBit i = false) : fitsB X (l + n) l = true := by
  have e1 : ((l : Int) + n - l + 1).toNat = n + 1 := by omega
  have e : (2 : Int) ^ (n + 1) = ((2 ^ (n + 1) : Nat) : Int) := by simp
  rw [fitsB, decide_eq_true_eq, e1, e]
  have hb := (bits_lt X (n + 1)).1 (fun i hi => by
    by_cases c : i < n + 1
    · exact c
    · have := (bits_lt X 64).2 (by simpa using hX) i hi
      rw [h i (by omega) this] at hi; cases hi)
  exact ⟨⟨by omega, by omega, by omega⟩, by omega⟩
theorem fits_not (X l n k : Nat) (hk : n + 1 ≤ k) (h : X.testBit k = true) : fitsB X (l + n) l = false := by
  have e1 : ((l : Int) + n - l + 1).toNat = n + 1 := by omega
  have e : (2 : Int) ^ (n + 1) = ((2 ^ (n + 1) : Nat) : Int) := by simp
  rw [fitsB, decide_eq_false_iff_not, e1, e]
  rintro ⟨_, hx⟩
  have := (bits_lt X (n + 1)).2 (by omega) k h
  omega

set_option maxHeartbeats 1000000 in
theorem refFits_any (v hi lo : Int) (v0 : 0 ≤ v) (v1 : v < 18446744073709551616) (w : World) :
    Calls Try.prog 37 #[.int .u64 v, .int .i64 hi, .int .i64 lo] w fun e w' => e = .returned (.bool (fitsB v hi lo)) ∧ ∃ x, w' = ext w x := by
  by_cases h : valid hi lo
  · have hv : decide (valid hi lo) = true := by simpa using h
    obtain ⟨l, n, rfl, rfl, hl⟩ := nats h
    obtain ⟨X, rfl⟩ := Int.eq_ofNat_of_zero_le v0
    clear h
    go_enter Try.func37, Try.ntmps37
    go_wp2_with (go_at_call 62; refine (is_any _ _ _).mono ?_; rintro e w' ⟨rfl, x, rfl⟩)
    go_loopw [7] (fun k wr => ∃ j : Nat, n + 1 ≤ j ∧ j ≤ 64 ∧ k = .int .i64 (j : Int) ∧ Hid (∀ i, n + 1 ≤ i → i < j → X.testBit i = false) ∧ ∃ y, wr = ext w y) (fun k _ => (64 - intOf k).toNat)
    case atStart =>
      exact ⟨n + 1, by omega, by omega, by go_num, fun i h1 h2 => by omega, up_to⟩
    case round =>
      obtain ⟨j, hj1, hj2, rfl, hV, y, rfl⟩ := hrel
      by_cases hjn : j = 64
      · subst hjn
        have hf := fits_of X l n hl (by omega) hV.out
        go_wp2_with (fail)
        go_ret; exact ⟨ret_bool hf.symm, up_to⟩
      · have hb := bitV_eq X j
        by_cases ht : X.testBit j = true
        · rw [if_pos ht] at hb
          have hf := fits_not X l n j hj1 ht
          have Ht := Lib.hid ht; clear ht
          have HJ : Hid (j < 64) := by unfold Hid; omega
          have hj3 : (j : Int) ≤ 63 := by omega
          go_wp2_with (go_at_call 59; refine (bit_any _ _ v0 v1 (by omega) (by omega) _).mono ?_; rintro e w' ⟨rfl, x, rfl⟩)
          go_ret; exact ⟨ret_bool hf.symm, up_to⟩
        · rw [if_neg ht] at hb
          have Ht := Lib.hid ht; clear ht
          have hj3 : (j : Int) ≤ 63 := by omega
          go_wp2_with (go_at_call 59; refine (bit_any _ _ v0 v1 (by omega) (by omega) _).mono ?_; rintro e w' ⟨rfl, x, rfl⟩)
          go_roundw
          case rel => exact ⟨j + 1, by omega, by omega, by go_num, fun i h1 h2 => if e : i = j then by subst e; simpa using Ht.out else hV.out i h1 (by omega), up_to⟩
          case measure => simp [intOf]; omega
  · have hv : decide (valid hi lo) = false := by simpa using h
    have hf : fitsB v hi lo = false := by simp [fitsB, h]
    clear h
    go_enter Try.func37, Try.ntmps37
    go_wp2_with (go_at_call 62; refine (is_any _ _ _).mono ?_; rintro e w' ⟨rfl, x, rfl⟩)
    go_ret; exact ⟨ret_bool hf.symm, up_to⟩

theorem lt64 {n : Nat} (h : n < 18446744073709551616) : n < 2 ^ 64 := by
  have e64 : (2 : Nat) ^ 64 = 18446744073709551616 := by decide
  rw [e64]; exact h

theorem bit_put_in (X V l n k : Nat) (hV : V < 2 ^ (n + 1)) (h1 : l ≤ k) (h2 : k ≤ l + n) : bitV V ((k : Int) - l) = ((pN X l n V / 2 ^ k % 2 : Nat) : Int) := by
  have e : ((k : Int) - l).toNat = k - l := by omega
  have ht : pN X l n V / 2 ^ k % 2 = V / 2 ^ (k - l) % 2 := by
    have := congrArg Bool.toNat (show (pN X l n V).testBit k = V.testBit (k - l) by
      rw [pN, sum_bits X V l n _ hV, if_neg (by omega), if_pos (by omega)])
    rw [Nat.toNat_testBit, Nat.toNat_testBit] at this
    exact this
  rw [ht, bitV, e]; simp
theorem bit_put_out (X V l n k : Nat) (hV : V < 2 ^ (n + 1)) (h : k < l ∨ l + n < k) : bitV X k = ((pN X l n V / 2 ^ k % 2 : Nat) : Int) := by
  have ht : pN X l n V / 2 ^ k % 2 = X / 2 ^ k % 2 := by
    have := congrArg Bool.toNat (show (pN X l n V).testBit k = X.testBit k by
      rw [pN, sum_bits X V l n _ hV]
      rcases h with h | h
      · rw [if_pos h]
      · rw [if_neg (by omega), if_neg (by omega)])
    rw [Nat.toNat_testBit, Nat.toNat_testBit] at this
    exact this
  rw [ht, bitV, Int.toNat_natCast]; simp

set_option maxRecDepth 20000 in
set_option maxHeartbeats 1000000 in
theorem refPut_to (x hi lo v : Int) (x0 : 0 ≤ x) (x1 : x < 18446744073709551616) (v0 : 0 ≤ v) (v1 : v < 18446744073709551616) (r : Value) (hr : putR x hi lo v = r) (w : World) :
    Calls Try.prog 31 #[.int .u64 x, .int .i64 hi, .int .i64 lo, .int .u64 v] w fun e w' => e = .returned r ∧ ∃ x, w' = ext w x := by
  have H := Lib.hid hr
  clear hr
  by_cases hf : fitsB v hi lo = true
  · have hf' := hf
    simp only [fitsB, decide_eq_true_eq] at hf'
    obtain ⟨h, hv⟩ := hf'
    obtain ⟨l, n, rfl, rfl, hl⟩ := nats h
    obtain ⟨X, rfl⟩ := Int.eq_ofNat_of_zero_le x0
    obtain ⟨V, rfl, hV⟩ := fit_nat hv v0
    clear hv h
    have HR : Hid (putR X (l + n) l V = .tuple #[.int .u64 ((pN X l n V : Nat) : Int), .int .i64 0]) := by
      unfold Hid; rw [putR, if_pos hf, put_cast, pN]
    have hP : pN X l n V < 18446744073709551616 := by have := put_lt X V l n hl (by omega) hV; unfold pN; simpa using this
    have HP := Lib.hid hP; clear hP
    have HB := Lib.hid hV; clear hV
    go_enter Try.func31, Try.ntmps31
    go_wp2_with (go_at_call 37; refine (refFits_any _ _ _ v0 v1 _).mono ?_; rintro e w' ⟨rfl, x, rfl⟩)
    go_loopw [10, 11, 12] (fun o k b wr => ∃ (j : Nat) (O : Int), j ≤ 64 ∧ k = .int .i64 ((j : Int) - 1) ∧ o = .int .u64 O ∧ Hid (O = ((pN X l n V / 2 ^ j : Nat) : Int)) ∧ ∃ y, wr = ext w y) (fun _ k _ _ => (intOf k + 1).toNat)
    case atStart =>
      refine ⟨64, 0, by omega, by go_num, rfl, ?_, up_to⟩
      have : pN X l n V / 2 ^ 64 = 0 := Nat.div_eq_of_lt (lt64 HP.out)
      unfold Hid; rw [this]; rfl
    case round =>
      obtain ⟨j, O, hj, rfl, rfl, hV, y, rfl⟩ := hrel
      by_cases hj0 : j = 0
      · subst hj0
        go_wp2_with (fail)
        go_ret2
        refine ⟨?_, up_to⟩
        rw [← H.out, HR.out, ← show O = ((pN X l n V : Nat) : Int) by rw [hV.out]; simp]
        simp
      · obtain ⟨k, rfl⟩ : ∃ k, j = k + 1 := ⟨j - 1, by omega⟩
        have hs := step_or (pN X l n V) k HP.out
        rw [← hV.out] at hs
        obtain ⟨O', hO'⟩ : ∃ O', O' = ((pN X l n V / 2 ^ k : Nat) : Int) := ⟨_, rfl⟩
        obtain ⟨b, hb⟩ : ∃ b, b = ((pN X l n V / 2 ^ k % 2 : Nat) : Int) := ⟨_, rfl⟩
        rw [← hO', ← hb] at hs
        have HO := Lib.hid hO'; clear hO'
        have hk : ((k + 1 : Nat) : Int) - 1 = k := by omega
        rw [hk]
        clear hk hj0
        have hk1 : (k : Int) ≤ 63 := by omega
        by_cases hin : l ≤ k ∧ k ≤ l + n
        · have hbit := bit_put_in X V l n k HB.out hin.1 hin.2
          obtain ⟨i1, i2⟩ := hin
          have i3 : (l : Int) ≤ k := by omega
          have i4 : (k : Int) ≤ (l : Int) + n := by omega
          rw [← hb] at hbit
          clear hb
          go_wp2_with (first | (go_at_call 59; ((with_reducible refine (bit_any (X : Int) (k : Int) x0 x1 (by omega) (by omega) _).mono ?_); rintro e w' ⟨rfl, x, rfl⟩)) | (go_at_call 59; ((with_reducible refine (bit_any (V : Int) ((k : Int) - l) v0 v1 (by omega) (by omega) _).mono ?_); rintro e w' ⟨rfl, x, rfl⟩)))
          go_roundw
          case rel => exact ⟨k, O', by omega, rfl, rfl, HO, up_to⟩
          case measure => simp [intOf]
        · have hbit := bit_put_out X V l n k HB.out (by omega)
          rw [← hb] at hbit
          clear hb
          rcases (by omega : (k : Int) < l ∨ ((l : Int) ≤ k ∧ (l : Int) + n < k)) with i3 | ⟨i3, i4⟩
          · clear hin
            have d1 : decide (l ≤ k) = false := by simp; omega
            go_wp2_with (go_at_call 59; ((with_reducible refine (bit_any (X : Int) (k : Int) x0 x1 (by omega) (by omega) _).mono ?_); rintro e w' ⟨rfl, x, rfl⟩))
            go_roundw
            case rel => exact ⟨k, O', by omega, rfl, rfl, HO, up_to⟩
            case measure => simp [intOf]
          · clear hin
            have d2 : decide ((k : Int) ≤ (l : Int) + n) = false := by simp; omega
            have d1 : decide (l ≤ k) = true := by simp; omega
            have d3 : decide (k ≤ l + n) = false := by simp; omega
            go_wp2_with (go_at_call 59; ((with_reducible refine (bit_any (X : Int) (k : Int) x0 x1 (by omega) (by omega) _).mono ?_); rintro e w' ⟨rfl, x, rfl⟩))
            go_roundw
            case rel => exact ⟨k, O', by omega, rfl, rfl, HO, up_to⟩
            case measure => simp [intOf]
  · have hf : fitsB v hi lo = false := by simpa using hf
    go_enter Try.func31, Try.ntmps31
    go_wp2_with (go_at_call 37; refine (refFits_any _ _ _ v0 v1 _).mono ?_; rintro e w' ⟨rfl, x, rfl⟩)
    go_ret2
    refine ⟨?_, up_to⟩
    rw [← H.out, putR, if_neg (by simpa using hf)]
    simp
end Go.Proofs.Ytoibeflmldiehaa
