/- FieldBack and FieldHalves walk to true. -/
import Derived.Test.YtoibeflmldiehaaField
namespace Go.Proofs.Ytoibeflmldiehaa
open Go.RowKit

theorem back_no (x v w hi lo top low : Int) (x0 : 0 ≤ x) (x1 : x < 18446744073709551616) (v0 : 0 ≤ v) (v1 : v < 18446744073709551616) (h1 : putR x hi lo v = .tuple #[.int .u64 x, .int .i64 2]) (W : World) :
    Calls Try.prog 9 #[.int .u64 x, .int .u64 v, .int .u64 w, .int .i64 hi, .int .i64 lo, .int .i64 top, .int .i64 low] W fun e w' => e = .returned (.bool true) ∧ ∃ x, w' = ext W x := by
  go_enter Try.func9, Try.ntmps9
  go_wp2_with (first | (go_at_call 30; refine (Put_to _ _ _ _ (by assumption) (by assumption) (by assumption) (by assumption) _ (by assumption) _).mono ?_; rintro e w' ⟨rfl, x, rfl⟩) | (go_at_call 29; refine (wakes1 _).mono ?_; rintro e w' ⟨rfl, x, rfl⟩))
  go_ret; exact ⟨rfl, up_to⟩

theorem back_meet (x v w hi lo top low a o1 o2 m an : Int) (x0 : 0 ≤ x) (x1 : x < 18446744073709551616) (v0 : 0 ≤ v) (v1 : v < 18446744073709551616) (a0 : 0 ≤ a) (a1 : a < 18446744073709551616)
    (h1 : putR x hi lo v = .tuple #[.int .u64 a, .int .i64 0]) (h2 : getOr a hi lo = v) (ho1 : onesOr hi lo = o1) (ho2 : onesOr top low = o2) (h3 : bits .andNot .u64 a o1 = an) (h3' : bits .andNot .u64 x o1 = an) (h4 : bits .and .u64 o1 o2 = m) (h5 : (m == 0) = false) (W : World) :
    Calls Try.prog 9 #[.int .u64 x, .int .u64 v, .int .u64 w, .int .i64 hi, .int .i64 lo, .int .i64 top, .int .i64 low] W fun e w' => e = .returned (.bool true) ∧ ∃ x, w' = ext W x := by
  go_enter Try.func9, Try.ntmps9
  go_wp2_with (first | (go_at_call 30; refine (Put_to _ _ _ _ (by assumption) (by assumption) (by assumption) (by assumption) _ (by assumption) _).mono ?_; rintro e w' ⟨rfl, x, rfl⟩) | (go_at_call 32; refine (Get_any _ _ _ (by assumption) (by assumption) _).mono ?_; rintro e w' ⟨rfl, x, rfl⟩) | (go_at_call 34; refine (Ones_any _ _ _).mono ?_; rintro e w' ⟨rfl, x, rfl⟩) | (go_at_call 29; refine (wakes1 _).mono ?_; rintro e w' ⟨rfl, x, rfl⟩))
  go_ret; exact ⟨rfl, up_to⟩

theorem back_two (x v w hi lo top low a b c o1 o2 an g : Int) (x0 : 0 ≤ x) (x1 : x < 18446744073709551616) (v0 : 0 ≤ v) (v1 : v < 18446744073709551616) (a0 : 0 ≤ a) (a1 : a < 18446744073709551616) (w0 : 0 ≤ w) (w1 : w < 18446744073709551616)
    (b0 : 0 ≤ b) (b1 : b < 18446744073709551616) (c0 : 0 ≤ c) (c1 : c < 18446744073709551616)
    (h1 : putR x hi lo v = .tuple #[.int .u64 a, .int .i64 0]) (h2 : getOr a hi lo = v) (ho1 : onesOr hi lo = o1) (ho2 : onesOr top low = o2) (h3 : bits .andNot .u64 a o1 = an) (h3' : bits .andNot .u64 x o1 = an) (h4 : bits .and .u64 o1 o2 = 0)
    (k1 : putR a top low w = .tuple #[.int .u64 b, .int .i64 g]) (k2 : putR x top low w = .tuple #[.int .u64 c, .int .i64 g]) (k3 : putR c hi lo v = .tuple #[.int .u64 b, .int .i64 0]) (k4 : getOr b hi lo = v) (W : World) :
    Calls Try.prog 9 #[.int .u64 x, .int .u64 v, .int .u64 w, .int .i64 hi, .int .i64 lo, .int .i64 top, .int .i64 low] W fun e w' => e = .returned (.bool true) ∧ ∃ x, w' = ext W x := by
  go_enter Try.func9, Try.ntmps9
  go_wp2_with (first | (go_at_call 30; refine (Put_to _ _ _ _ (by assumption) (by assumption) (by assumption) (by assumption) _ (by assumption) _).mono ?_; rintro e w' ⟨rfl, x, rfl⟩) | (go_at_call 32; refine (Get_any _ _ _ (by assumption) (by assumption) _).mono ?_; rintro e w' ⟨rfl, x, rfl⟩) | (go_at_call 34; refine (Ones_any _ _ _).mono ?_; rintro e w' ⟨rfl, x, rfl⟩) | (go_at_call 29; refine (wakes1 _).mono ?_; rintro e w' ⟨rfl, x, rfl⟩))
  all_goals (go_ret; exact ⟨rfl, up_to⟩)

theorem putR_yes {x hi lo v : Int} (h : fitsB v hi lo = true) : putR x hi lo v = .tuple #[.int .u64 (putV x hi lo v), .int .i64 0] := by simp [putR, h]
theorem putR_no {x hi lo v : Int} (h : fitsB v hi lo = false) : putR x hi lo v = .tuple #[.int .u64 x, .int .i64 2] := by simp [putR, h]

theorem FieldBack_walk (x v w hi lo top low : Int) (a1 : (Lit.int .u64 x).wf = true) (a2 : (Lit.int .u64 v).wf = true) (a3 : (Lit.int .u64 w).wf = true) (_ : (Lit.int .i64 hi).wf = true) (_ : (Lit.int .i64 lo).wf = true) (_ : (Lit.int .i64 top).wf = true) (_ : (Lit.int .i64 low).wf = true) (W : World) :
    Calls Try.prog 9 #[.int .u64 x, .int .u64 v, .int .u64 w, .int .i64 hi, .int .i64 lo, .int .i64 top, .int .i64 low] W fun e w' => e = .returned (.bool true) ∧ ∃ x, w' = ext W x := by
  obtain ⟨x0, x1⟩ := bd_u64 a1
  obtain ⟨v0, v1⟩ := bd_u64 a2
  obtain ⟨w0, w1⟩ := bd_u64 a3
  cases hf : fitsB v hi lo with
  | false => exact back_no x v w hi lo top low x0 x1 v0 v1 (putR_no hf) W
  | true =>
    have hf' := hf
    simp only [fitsB, decide_eq_true_eq] at hf'
    obtain ⟨h, hv⟩ := hf'
    obtain ⟨p0, p1⟩ := put_bound x hi lo v h x0 x1 v0 hv
    have hget : getOr (putV x hi lo v) hi lo = v := by rw [getOr, if_pos h]; exact get_put x hi lo v h x0 v0 hv
    have hones : onesOr hi lo = onesV hi lo := by rw [onesOr, if_pos h]
    have han := andNot_put x hi lo v h x0 x1 v0 hv
    by_cases hm : bits .and .u64 (onesV hi lo) (onesOr top low) = 0
    · cases hg : fitsB w top low with
      | false =>
        exact back_two x v w hi lo top low _ _ _ _ _ _ _ x0 x1 v0 v1 p0 p1 w0 w1 p0 p1 x0 x1 (putR_yes hf) hget hones rfl han rfl hm (putR_no hg) (putR_no hg) (putR_yes hf) hget W
      | true =>
        have hg' := hg
        simp only [fitsB, decide_eq_true_eq] at hg'
        obtain ⟨h', hw⟩ := hg'
        rw [onesOr, if_pos h'] at hm
        have hc := put_comm x hi lo top low v w h h' x0 x1 v0 hv w0 hw hm
        obtain ⟨q0, q1⟩ := put_bound (putV x hi lo v) top low w h' p0 p1 w0 hw
        obtain ⟨r0, r1⟩ := put_bound x top low w h' x0 x1 w0 hw
        have hget2 : getOr (putV (putV x hi lo v) top low w) hi lo = v := by rw [hc, getOr, if_pos h]; exact get_put _ hi lo v h r0 v0 hv
        refine back_two x v w hi lo top low _ _ _ _ (onesV top low) _ 0 x0 x1 v0 v1 p0 p1 w0 w1 q0 q1 r0 r1 (putR_yes hf) hget hones (by rw [onesOr, if_pos h']) han rfl hm (putR_yes hg) (putR_yes hg) ?_ hget2 W
        rw [putR_yes hf, hc]
    · exact back_meet x v w hi lo top low _ _ _ _ _ x0 x1 v0 v1 p0 p1 (putR_yes hf) hget hones rfl han rfl rfl (by simpa using hm) W

theorem half_k (k : Int) : ∃ m : Nat, (wrap64 (k.tmod 63 + 63)).tmod 63 = m ∧ m ≤ 62 := by
  have h1 := Int.tmod_lt_of_pos k (b := 63) (by decide)
  have h2 : -63 < k.tmod 63 := by
    have := Int.lt_tmod_of_pos k (b := 63) (by decide)
    omega
  have e : wrap64 (k.tmod 63 + 63) = k.tmod 63 + 63 := by unfold wrap64; omega
  rw [e, Int.tmod_eq_emod_of_nonneg (by omega)]
  exact ⟨((k.tmod 63 + 63) % 63).toNat, by omega, by omega⟩

theorem xor_halves (m : Nat) (hm : m ≤ 62) : bits .xor .u64 (onesV 63 (m + 1)) (onesV m 0) = 18446744073709551615 := by
  obtain ⟨n, hn⟩ : ∃ n, n + (m + 1) = 63 := ⟨62 - m, by omega⟩
  have e1 : onesV 63 (m + 1) = (((2 ^ (n + 1) - 1) * 2 ^ (m + 1) : Nat) : Int) := by
    rw [← ones_cast (m + 1) n]; congr 1 <;> omega
  have e2 : onesV m 0 = (((2 ^ (m + 1) - 1) * 2 ^ 0 : Nat) : Int) := by
    rw [← ones_cast 0 m]; congr 1; omega
  have e64 : (2 : Nat) ^ 64 = 18446744073709551616 := by decide
  have h1 := onesN (m + 1) n (by omega)
  have h2 := onesN 0 m (by omega)
  rw [e1, e2, bits_xor_u64_nat _ _ (by omega) (by omega)]
  have : (2 ^ (n + 1) - 1) * 2 ^ (m + 1) ^^^ (2 ^ (m + 1) - 1) * 2 ^ 0 = 2 ^ 64 - 1 := by
    apply Nat.eq_of_testBit_eq
    intro i
    rw [Nat.testBit_xor, mask_bits, mask_bits, Nat.testBit_two_pow_sub_one]
    by_cases c1 : m + 1 ≤ i
    · have c3 : ¬ i < m + 1 := by omega
      have c4 : (i < m + 1 + n + 1) ↔ (i < 64) := by omega
      simp [c1, c3, c4]
    · have c3 : i < m + 1 := by omega
      have c4 : i < 64 := by omega
      simp [c1, c3, c4]
  rw [this]; decide
theorem halves (x : Int) (m : Nat) (hm : m ≤ 62) (x0 : 0 ≤ x) (x1 : x < 18446744073709551616) :
    ∃ g1 g0 a o1 o0 : Int, getOr x 63 (m + 1) = g1 ∧ putR 0 63 (m + 1) g1 = .tuple #[.int .u64 a, .int .i64 0] ∧ getOr x m 0 = g0 ∧ putR a m 0 g0 = .tuple #[.int .u64 x, .int .i64 0] ∧ onesOr 63 (m + 1) = o1 ∧ onesOr m 0 = o0 ∧
      bits .xor .u64 o1 o0 = 18446744073709551615 ∧ 0 ≤ g1 ∧ g1 < 18446744073709551616 ∧ 0 ≤ g0 ∧ g0 < 18446744073709551616 ∧ 0 ≤ a ∧ a < 18446744073709551616 := by
  obtain ⟨X, rfl⟩ := Int.eq_ofNat_of_zero_le x0
  obtain ⟨n, hn⟩ : ∃ n, n + (m + 1) = 63 := ⟨62 - m, by omega⟩
  have v1 : valid 63 (m + 1) := ⟨by omega, by omega, by omega⟩
  have v0 : valid m 0 := ⟨by omega, by omega, by omega⟩
  have e64 : (2 : Nat) ^ 64 = 18446744073709551616 := by decide
  have ep : (2 : Nat) ^ 64 = 2 ^ (n + 1) * 2 ^ (m + 1) := by rw [← Nat.pow_add]; congr 1; omega
  have hq : X / 2 ^ (m + 1) < 2 ^ (n + 1) := Nat.div_lt_of_lt_mul (by rw [Nat.mul_comm, ← ep]; omega)
  have hr : X % 2 ^ (m + 1) < 2 ^ (m + 1) := Nat.mod_lt _ (pow_pos _)
  have hs : X / 2 ^ (m + 1) * 2 ^ (m + 1) + X % 2 ^ (m + 1) = X := Nat.div_add_mod' X _
  have t1 : ((m : Int) + 1).toNat = m + 1 := by omega
  have t2 : (63 - ((m : Int) + 1) + 1).toNat = n + 1 := by omega
  have t3 : ((m : Int) - 0 + 1).toNat = m + 1 := by omega
  have t4 : ((63 : Int) + 1).toNat = 64 := by decide
  have c1 : (2 : Int) ^ (n + 1) = ((2 ^ (n + 1) : Nat) : Int) := by simp
  have c2 : (2 : Int) ^ (m + 1) = ((2 ^ (m + 1) : Nat) : Int) := by simp
  have g1 : getOr X 63 (m + 1) = ((X / 2 ^ (m + 1) : Nat) : Int) := by
    rw [getOr, if_pos v1, getV, t1, t2]
    have : X / 2 ^ (m + 1) % 2 ^ (n + 1) = X / 2 ^ (m + 1) := Nat.mod_eq_of_lt hq
    rw [← this]; simp
  have g0 : getOr X m 0 = ((X % 2 ^ (m + 1) : Nat) : Int) := by
    rw [getOr, if_pos v0, getV, t3]; simp
  have f1 : fitsB ((X / 2 ^ (m + 1) : Nat) : Int) 63 (m + 1) = true := by
    rw [fitsB, decide_eq_true_eq, t2, c1]; exact ⟨v1, by omega⟩
  have f0 : fitsB ((X % 2 ^ (m + 1) : Nat) : Int) m 0 = true := by
    rw [fitsB, decide_eq_true_eq, t3, c2]; exact ⟨v0, by omega⟩
  have p1 : putV 0 63 (m + 1) ((X / 2 ^ (m + 1) : Nat) : Int) = ((X / 2 ^ (m + 1) * 2 ^ (m + 1) : Nat) : Int) := by
    rw [putV, t1, t4]; simp
  have p0 : putV ((X / 2 ^ (m + 1) * 2 ^ (m + 1) : Nat) : Int) m 0 ((X % 2 ^ (m + 1) : Nat) : Int) = X := by
    have : ((X / 2 ^ (m + 1) * 2 ^ (m + 1) : Nat) : Int) / 2 ^ (m + 1) = ((X / 2 ^ (m + 1) : Nat) : Int) := by
      rw [c2, ← Int.natCast_ediv, Nat.mul_div_cancel _ (pow_pos _)]
    rw [putV, show ((m : Int) + 1).toNat = m + 1 from t1, this, c2]
    have e0 : (2 : Int) ^ (0 : Int).toNat = 1 := by decide
    rw [e0, Int.emod_one, ← Int.natCast_mul]
    omega
  refine ⟨((X / 2 ^ (m + 1) : Nat) : Int), ((X % 2 ^ (m + 1) : Nat) : Int), ((X / 2 ^ (m + 1) * 2 ^ (m + 1) : Nat) : Int), _, _, g1, by rw [putR_yes f1, p1], g0, by rw [putR_yes f0, p0], by rw [onesOr, if_pos v1], by rw [onesOr, if_pos v0], xor_halves m hm, ?_, ?_, ?_, ?_, ?_, ?_⟩ <;> (have hd := Nat.div_le_self X (2 ^ (m + 1)); clear g1 g0 f1 f0 p1 p0; generalize X / 2 ^ (m + 1) = q at *; generalize X % 2 ^ (m + 1) = r at *; generalize q * 2 ^ (m + 1) = z at *; omega)

theorem FieldHalves_walk (x k : Int) (a1 : (Lit.int .u64 x).wf = true) (_ : (Lit.int .i64 k).wf = true) (W : World) :
    Calls Try.prog 10 #[.int .u64 x, .int .i64 k] W fun e w' => e = .returned (.bool true) ∧ ∃ x, w' = ext W x := by
  obtain ⟨x0, x1⟩ := bd_u64 a1
  obtain ⟨m, hm, m62⟩ := half_k k
  obtain ⟨g1, g0, a, o1, o0, h1, h2, h3, h4, h5, h6, h7, b1, b2, b3, b4, b5, b6⟩ := halves x m m62 x0 x1
  have z0 : (0 : Int) ≤ 0 := by decide
  have z1 : (0 : Int) < 18446744073709551616 := by decide
  go_enter Try.func10, Try.ntmps10
  go_wp2_with (first | (go_at_call 30; refine (Put_to _ _ _ _ (by assumption) (by assumption) (by assumption) (by assumption) _ (by assumption) _).mono ?_; rintro e w' ⟨rfl, x, rfl⟩) | (go_at_call 32; refine (Get_any _ _ _ (by assumption) (by assumption) _).mono ?_; rintro e w' ⟨rfl, x, rfl⟩) | (go_at_call 34; refine (Ones_any _ _ _).mono ?_; rintro e w' ⟨rfl, x, rfl⟩) | (go_at_call 29; refine (wakes1 _).mono ?_; rintro e w' ⟨rfl, x, rfl⟩))
  go_ret; exact ⟨rfl, up_to⟩
end Go.Proofs.Ytoibeflmldiehaa
