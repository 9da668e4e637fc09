/- From of package addr, the reference's functions of addresses, and what wakes says. -/
import Derived.Test.YtoibeflmldiehaaAddr
namespace Go.Proofs.Ytoibeflmldiehaa
open Go.RowKit

def fromOk (a b c d : Int) : Bool := decide ((0 ≤ a ∧ a ≤ 255) ∧ (0 ≤ b ∧ b ≤ 511) ∧ (0 ≤ c ∧ c ≤ 511) ∧ (0 ≤ d ∧ d ≤ 511))
def fromR (a b c d : Int) : Value := if fromOk a b c d then .tuple #[.int .u64 (((a * 512 + b) * 512 + c) * 512 + d), .int .i64 0] else .tuple #[.int .u64 0, .int .i64 2]

theorem or_from (p k : Int) (p0 : 0 ≤ p) (p1 : p < 67108864) (k0 : 0 ≤ k) (k1 : k ≤ 511) : bits .or .u64 (p * 512) k = p * 512 + k := by
  obtain ⟨P, rfl⟩ := Int.eq_ofNat_of_zero_le p0
  obtain ⟨K, rfl⟩ := Int.eq_ofNat_of_zero_le k0
  have h := Nat.shiftLeft_add_eq_or_of_lt (b := K) (i := 9) (by omega) P
  rw [Nat.shiftLeft_eq] at h
  have e1 : ((P : Int) * 512) = ((P * 512 : Nat) : Int) := by simp
  rw [e1, bits_or_u64_nat _ _ (by omega) (by omega)]
  have h' : P * 512 ||| K = P * 512 + K := h.symm
  rw [h']; simp

set_option maxHeartbeats 1000000 in
theorem From_yes (a b c d : Int) (a0 : 0 ≤ a) (a1 : a ≤ 255) (b0 : 0 ≤ b) (b1 : b ≤ 511) (c0 : 0 ≤ c) (c1 : c ≤ 511) (d0 : 0 ≤ d) (d1 : d ≤ 511) (w : World) :
    Calls Try.prog 24 #[.agg #[.int .i64 a, .int .i64 b, .int .i64 c, .int .i64 d]] w fun e w' => e = .returned (.tuple #[.int .u64 (((a * 512 + b) * 512 + c) * 512 + d), .int .i64 0]) ∧ ∃ x, w' = ext w x := by
  have z0 : bits .or .u64 0 a = a := by have := or_from 0 a (by omega) (by omega) a0 (by omega); simpa using this
  have z1 := or_from a b a0 (by omega) b0 b1
  have z2 := or_from (a * 512 + b) c (by omega) (by omega) c0 c1
  have z3 := or_from ((a * 512 + b) * 512 + c) d (by omega) (by omega) d0 d1
  go_enter Try.func24, Try.ntmps24
  go_wp2
  refine wp_loop_rounds 5 ?_
  iterate 4
    rw [rounds_succ]
    go_wp2
    go_quiet (fail)
    go_wp2
  rw [rounds_succ]
  go_wp2
  go_ret2
  exact ⟨by simp, up_to⟩

set_option maxHeartbeats 1000000 in
theorem From_no_a (a b c d : Int)  (h : a < 0 ∨ (0 ≤ a ∧ 255 < a)) (w : World) :
    Calls Try.prog 24 #[.agg #[.int .i64 a, .int .i64 b, .int .i64 c, .int .i64 d]] w fun e w' => e = .returned (.tuple #[.int .u64 0, .int .i64 2]) ∧ ∃ x, w' = ext w x := by
  rcases h with h | ⟨h0, h⟩
  all_goals
    go_enter Try.func24, Try.ntmps24
    go_wp2
    refine wp_loop_rounds 5 ?_
    rw [rounds_succ]
    go_wp2
    go_quiet (fail)
    go_wp2
    all_goals first
      | (go_ret2; exact ⟨rfl, up_to⟩)
      | (exfalso; omega)

set_option maxHeartbeats 1000000 in
theorem From_no_b (a b c d : Int) (a0 : 0 ≤ a) (a1 : a ≤ 255) (h : b < 0 ∨ (0 ≤ b ∧ 511 < b)) (w : World) :
    Calls Try.prog 24 #[.agg #[.int .i64 a, .int .i64 b, .int .i64 c, .int .i64 d]] w fun e w' => e = .returned (.tuple #[.int .u64 0, .int .i64 2]) ∧ ∃ x, w' = ext w x := by
  have z0 : bits .or .u64 0 a = a := by have := or_from 0 a (by omega) (by omega) a0 (by omega); simpa using this
  rcases h with h | ⟨h0, h⟩
  all_goals
    go_enter Try.func24, Try.ntmps24
    go_wp2
    refine wp_loop_rounds 5 ?_
    rw [rounds_succ]
    go_wp2
    go_quiet (fail)
    go_wp2
    rw [rounds_succ]
    go_wp2
    go_quiet (fail)
    go_wp2
    all_goals first
      | (go_ret2; exact ⟨rfl, up_to⟩)
      | (exfalso; omega)

set_option maxHeartbeats 1000000 in
theorem From_no_c (a b c d : Int) (a0 : 0 ≤ a) (a1 : a ≤ 255) (b0 : 0 ≤ b) (b1 : b ≤ 511) (h : c < 0 ∨ (0 ≤ c ∧ 511 < c)) (w : World) :
    Calls Try.prog 24 #[.agg #[.int .i64 a, .int .i64 b, .int .i64 c, .int .i64 d]] w fun e w' => e = .returned (.tuple #[.int .u64 0, .int .i64 2]) ∧ ∃ x, w' = ext w x := by
  have z0 : bits .or .u64 0 a = a := by have := or_from 0 a (by omega) (by omega) a0 (by omega); simpa using this
  have z1 := or_from a b a0 (by omega) b0 b1
  rcases h with h | ⟨h0, h⟩
  all_goals
    go_enter Try.func24, Try.ntmps24
    go_wp2
    refine wp_loop_rounds 5 ?_
    rw [rounds_succ]
    go_wp2
    go_quiet (fail)
    go_wp2
    rw [rounds_succ]
    go_wp2
    go_quiet (fail)
    go_wp2
    rw [rounds_succ]
    go_wp2
    go_quiet (fail)
    go_wp2
    all_goals first
      | (go_ret2; exact ⟨rfl, up_to⟩)
      | (exfalso; omega)

set_option maxHeartbeats 1000000 in
theorem From_no_d (a b c d : Int) (a0 : 0 ≤ a) (a1 : a ≤ 255) (b0 : 0 ≤ b) (b1 : b ≤ 511) (c0 : 0 ≤ c) (c1 : c ≤ 511) (h : d < 0 ∨ (0 ≤ d ∧ 511 < d)) (w : World) :
    Calls Try.prog 24 #[.agg #[.int .i64 a, .int .i64 b, .int .i64 c, .int .i64 d]] w fun e w' => e = .returned (.tuple #[.int .u64 0, .int .i64 2]) ∧ ∃ x, w' = ext w x := by
  have z0 : bits .or .u64 0 a = a := by have := or_from 0 a (by omega) (by omega) a0 (by omega); simpa using this
  have z1 := or_from a b a0 (by omega) b0 b1
  have z2 := or_from (a * 512 + b) c (by omega) (by omega) c0 c1
  rcases h with h | ⟨h0, h⟩
  all_goals
    go_enter Try.func24, Try.ntmps24
    go_wp2
    refine wp_loop_rounds 5 ?_
    rw [rounds_succ]
    go_wp2
    go_quiet (fail)
    go_wp2
    rw [rounds_succ]
    go_wp2
    go_quiet (fail)
    go_wp2
    rw [rounds_succ]
    go_wp2
    go_quiet (fail)
    go_wp2
    rw [rounds_succ]
    go_wp2
    go_quiet (fail)
    go_wp2
    all_goals first
      | (go_ret2; exact ⟨rfl, up_to⟩)
      | (exfalso; omega)

theorem From_to (a b c d : Int) (r : Value) (hr : fromR a b c d = r) (w : World) :
    Calls Try.prog 24 #[.agg #[.int .i64 a, .int .i64 b, .int .i64 c, .int .i64 d]] w fun e w' => e = .returned r ∧ ∃ x, w' = ext w x := by
  cases hk : fromOk a b c d with
  | true =>
    rw [fromR, hk] at hr
    subst hr
    simp only [fromOk, decide_eq_true_eq] at hk
    obtain ⟨⟨a0, a1⟩, ⟨b0, b1⟩, ⟨c0, c1⟩, d0, d1⟩ := hk
    exact From_yes a b c d a0 a1 b0 b1 c0 c1 d0 d1 w
  | false =>
    rw [fromR, hk] at hr
    subst hr
    simp only [fromOk, decide_eq_false_iff_not] at hk
    by_cases ha : 0 ≤ a ∧ a ≤ 255
    · by_cases hb : 0 ≤ b ∧ b ≤ 511
      · by_cases hc : 0 ≤ c ∧ c ≤ 511
        · exact From_no_d a b c d ha.1 ha.2 hb.1 hb.2 hc.1 hc.2 (by omega) w
        · exact From_no_c a b c d ha.1 ha.2 hb.1 hb.2 (by omega) w
      · exact From_no_b a b c d ha.1 ha.2 (by omega) w
    · exact From_no_a a b c d (by omega) w

set_option maxHeartbeats 1000000 in
theorem refFrom_yes (a b c d : Int) (a0 : 0 ≤ a) (a1 : a ≤ 255) (b0 : 0 ≤ b) (b1 : b ≤ 511) (c0 : 0 ≤ c) (c1 : c ≤ 511) (d0 : 0 ≤ d) (d1 : d ≤ 511) (w : World) :
    Calls Try.prog 25 #[.agg #[.int .i64 a, .int .i64 b, .int .i64 c, .int .i64 d]] w fun e w' => e = .returned (.tuple #[.int .u64 (((a * 512 + b) * 512 + c) * 512 + d), .int .i64 0]) ∧ ∃ x, w' = ext w x := by
  go_enter Try.func25, Try.ntmps25
  go_wp2
  refine wp_loop_rounds 5 ?_
  iterate 4
    rw [rounds_succ]
    go_wp2
  rw [rounds_succ]
  go_wp2
  go_ret2
  exact ⟨by simp, up_to⟩

set_option maxHeartbeats 1000000 in
theorem refFrom_no_a (a b c d : Int)  (h : a < 0 ∨ (0 ≤ a ∧ 255 < a)) (w : World) :
    Calls Try.prog 25 #[.agg #[.int .i64 a, .int .i64 b, .int .i64 c, .int .i64 d]] w fun e w' => e = .returned (.tuple #[.int .u64 0, .int .i64 2]) ∧ ∃ x, w' = ext w x := by
  rcases h with h | ⟨h0, h⟩
  all_goals
    go_enter Try.func25, Try.ntmps25
    go_wp2
    refine wp_loop_rounds 5 ?_
    rw [rounds_succ]
    go_wp2
    all_goals first
      | (go_ret2; exact ⟨rfl, up_to⟩)
      | (exfalso; omega)

set_option maxHeartbeats 1000000 in
theorem refFrom_no_b (a b c d : Int) (a0 : 0 ≤ a) (a1 : a ≤ 255) (h : b < 0 ∨ (0 ≤ b ∧ 511 < b)) (w : World) :
    Calls Try.prog 25 #[.agg #[.int .i64 a, .int .i64 b, .int .i64 c, .int .i64 d]] w fun e w' => e = .returned (.tuple #[.int .u64 0, .int .i64 2]) ∧ ∃ x, w' = ext w x := by
  rcases h with h | ⟨h0, h⟩
  all_goals
    go_enter Try.func25, Try.ntmps25
    go_wp2
    refine wp_loop_rounds 5 ?_
    rw [rounds_succ]
    go_wp2
    rw [rounds_succ]
    go_wp2
    all_goals first
      | (go_ret2; exact ⟨rfl, up_to⟩)
      | (exfalso; omega)

set_option maxHeartbeats 1000000 in
theorem refFrom_no_c (a b c d : Int) (a0 : 0 ≤ a) (a1 : a ≤ 255) (b0 : 0 ≤ b) (b1 : b ≤ 511) (h : c < 0 ∨ (0 ≤ c ∧ 511 < c)) (w : World) :
    Calls Try.prog 25 #[.agg #[.int .i64 a, .int .i64 b, .int .i64 c, .int .i64 d]] w fun e w' => e = .returned (.tuple #[.int .u64 0, .int .i64 2]) ∧ ∃ x, w' = ext w x := by
  rcases h with h | ⟨h0, h⟩
  all_goals
    go_enter Try.func25, Try.ntmps25
    go_wp2
    refine wp_loop_rounds 5 ?_
    rw [rounds_succ]
    go_wp2
    rw [rounds_succ]
    go_wp2
    rw [rounds_succ]
    go_wp2
    all_goals first
      | (go_ret2; exact ⟨rfl, up_to⟩)
      | (exfalso; omega)

set_option maxHeartbeats 1000000 in
theorem refFrom_no_d (a b c d : Int) (a0 : 0 ≤ a) (a1 : a ≤ 255) (b0 : 0 ≤ b) (b1 : b ≤ 511) (c0 : 0 ≤ c) (c1 : c ≤ 511) (h : d < 0 ∨ (0 ≤ d ∧ 511 < d)) (w : World) :
    Calls Try.prog 25 #[.agg #[.int .i64 a, .int .i64 b, .int .i64 c, .int .i64 d]] w fun e w' => e = .returned (.tuple #[.int .u64 0, .int .i64 2]) ∧ ∃ x, w' = ext w x := by
  rcases h with h | ⟨h0, h⟩
  all_goals
    go_enter Try.func25, Try.ntmps25
    go_wp2
    refine wp_loop_rounds 5 ?_
    rw [rounds_succ]
    go_wp2
    rw [rounds_succ]
    go_wp2
    rw [rounds_succ]
    go_wp2
    rw [rounds_succ]
    go_wp2
    all_goals first
      | (go_ret2; exact ⟨rfl, up_to⟩)
      | (exfalso; omega)

theorem refFrom_to (a b c d : Int) (r : Value) (hr : fromR a b c d = r) (w : World) :
    Calls Try.prog 25 #[.agg #[.int .i64 a, .int .i64 b, .int .i64 c, .int .i64 d]] w fun e w' => e = .returned r ∧ ∃ x, w' = ext w x := by
  cases hk : fromOk a b c d with
  | true =>
    rw [fromR, hk] at hr
    subst hr
    simp only [fromOk, decide_eq_true_eq] at hk
    obtain ⟨⟨a0, a1⟩, ⟨b0, b1⟩, ⟨c0, c1⟩, d0, d1⟩ := hk
    exact refFrom_yes a b c d a0 a1 b0 b1 c0 c1 d0 d1 w
  | false =>
    rw [fromR, hk] at hr
    subst hr
    simp only [fromOk, decide_eq_false_iff_not] at hk
    by_cases ha : 0 ≤ a ∧ a ≤ 255
    · by_cases hb : 0 ≤ b ∧ b ≤ 511
      · by_cases hc : 0 ≤ c ∧ c ≤ 511
        · exact refFrom_no_d a b c d ha.1 ha.2 hb.1 hb.2 hc.1 hc.2 (by omega) w
        · exact refFrom_no_c a b c d ha.1 ha.2 hb.1 hb.2 (by omega) w
      · exact refFrom_no_b a b c d ha.1 ha.2 (by omega) w
    · exact refFrom_no_a a b c d (by omega) w
end Go.Proofs.Ytoibeflmldiehaa
