/- What the functions of package addr come to, and the reference's. -/
import Derived.Test.YtcjklghjnbhcdaaWRef01
namespace Go.Proofs.Ytcjklghjnbhcdaa
open Go.RowKit

def lvl (level : Int) : Prop := level = 0 ∨ level = 1 ∨ level = 2 ∨ level = 3
def indexV (p level : Int) : Int := if level = 0 then p / 134217728 % 512 else if level = 1 then p / 262144 % 512 else if level = 2 then p / 512 % 512 else p % 512
def prefixV (p level : Int) : Int := if level = 0 then p / 134217728 else if level = 1 then p / 262144 else if level = 2 then p / 512 else p
def okPL (p level : Int) : Bool := decide (p < 34359738368 ∧ 0 ≤ level ∧ level ≤ 3)
def indexR (p level : Int) : Value := if okPL p level then .tuple #[.int .i64 (indexV p level), .int .i64 0] else .tuple #[.int .i64 0, .int .i64 2]
def prefixR (p level : Int) : Value := if okPL p level then .tuple #[.int .u64 (prefixV p level), .int .i64 0] else .tuple #[.int .u64 0, .int .i64 2]

theorem got (p : Int) (p0 : 0 ≤ p) (p1 : p < 34359738368) : getOr p 35 27 = p / 134217728 % 512 ∧ getOr p 26 18 = p / 262144 % 512 ∧ getOr p 17 9 = p / 512 % 512 ∧ getOr p 8 0 = p % 512 ∧
    getOr p 63 27 = p / 134217728 ∧ getOr p 63 18 = p / 262144 ∧ getOr p 63 9 = p / 512 ∧ getOr p 63 0 = p := by
  refine ⟨?_, ?_, ?_, ?_, ?_, ?_, ?_, ?_⟩ <;> simp only [getOr, valid, getV] <;> simp <;> omega

theorem low_no (p level : Int) (h : okPL p level = false) (w : World) :
    Calls Try.prog 68 #[.int .u64 p, .int .i64 level] w fun e w' => e = .returned (.tuple #[.int .i64 0, .int .i64 2]) ∧ ∃ x, w' = ext w x := by
  simp only [okPL, decide_eq_false_iff_not] at h
  have H := Lib.hid h
  clear h
  go_enter Try.func68, Try.ntmps68
  go_wp2
  all_goals first | (go_ret2; exact ⟨rfl, up_to⟩) | (exfalso; exact H.out ⟨by omega, by omega, by omega⟩)

theorem low_yes (p level : Int) (h1 : p < 34359738368) (h2 : 0 ≤ level) (h3 : level ≤ 3) (w : World) :
    Calls Try.prog 68 #[.int .u64 p, .int .i64 level] w fun e w' => e = .returned (.tuple #[.int .i64 (9 * (3 - level)), .int .i64 0]) ∧ ∃ x, w' = ext w x := by
  go_enter Try.func68, Try.ntmps68
  go_wp2
  all_goals first | (go_ret2; exact ⟨by simp, up_to⟩) | (exfalso; omega)

theorem Index_to (p level : Int) (p0 : 0 ≤ p) (p2 : p < 18446744073709551616) (r : Value) (hr : indexR p level = r) (w : World) :
    Calls Try.prog 37 #[.int .u64 p, .int .i64 level] w fun e w' => e = .returned r ∧ ∃ x, w' = ext w x := by
  have HR := Lib.hid hr
  clear hr
  cases hk : okPL p level with
  | false =>
    have HK := Lib.hid hk
    clear hk
    go_enter Try.func37, Try.ntmps37
    go_wp2_with (go_at_call 68; refine (low_no _ _ HK.out _).mono ?_; rintro e w' ⟨rfl, x, rfl⟩)
    go_ret2
    exact ⟨by rw [← HR.out, indexR, HK.out]; simp, up_to⟩
  | true =>
    have HK := Lib.hid hk
    simp only [okPL, decide_eq_true_eq] at hk
    obtain ⟨h1, h2, h3⟩ := hk
    obtain ⟨g0, g1, g2, g3, _⟩ := got p p0 h1
    rcases (by omega : level = 0 ∨ level = 1 ∨ level = 2 ∨ level = 3) with rfl | rfl | rfl | rfl
    all_goals
      go_enter Try.func37, Try.ntmps37
      go_wp2_with (first | (go_at_call 68; refine (low_yes _ _ h1 (by decide) (by decide) _).mono ?_; rintro e w' ⟨rfl, x, rfl⟩; simp only [Int.reduceSub, Int.reduceMul]) | (go_at_call 69; refine (Get_any _ _ _ p0 p2 _).mono ?_; rintro e w' ⟨rfl, x, rfl⟩))
      go_ret2
      refine ⟨?_, up_to⟩
      rw [← HR.out, indexR, HK.out]
      simp [indexV]

theorem Prefix_to (p level : Int) (p0 : 0 ≤ p) (p2 : p < 18446744073709551616) (r : Value) (hr : prefixR p level = r) (w : World) :
    Calls Try.prog 71 #[.int .u64 p, .int .i64 level] w fun e w' => e = .returned r ∧ ∃ x, w' = ext w x := by
  have HR := Lib.hid hr
  clear hr
  cases hk : okPL p level with
  | false =>
    have HK := Lib.hid hk
    clear hk
    go_enter Try.func71, Try.ntmps71
    go_wp2_with (go_at_call 68; refine (low_no _ _ HK.out _).mono ?_; rintro e w' ⟨rfl, x, rfl⟩)
    go_ret2
    exact ⟨by rw [← HR.out, prefixR, HK.out]; simp, up_to⟩
  | true =>
    have HK := Lib.hid hk
    simp only [okPL, decide_eq_true_eq] at hk
    obtain ⟨h1, h2, h3⟩ := hk
    obtain ⟨_, _, _, _, g0, g1, g2, g3⟩ := got p p0 h1
    rcases (by omega : level = 0 ∨ level = 1 ∨ level = 2 ∨ level = 3) with rfl | rfl | rfl | rfl
    all_goals
      go_enter Try.func71, Try.ntmps71
      go_wp2_with (first | (go_at_call 68; refine (low_yes _ _ h1 (by decide) (by decide) _).mono ?_; rintro e w' ⟨rfl, x, rfl⟩; simp only [Int.reduceSub, Int.reduceMul]) | (go_at_call 69; refine (Get_any _ _ _ p0 p2 _).mono ?_; rintro e w' ⟨rfl, x, rfl⟩))
      go_ret2
      refine ⟨?_, up_to⟩
      rw [← HR.out, prefixR, HK.out]
      simp [prefixV]

def wordR (f k : Int) : Value := if 0 ≤ f ∧ f ≤ 1048576 ∧ 0 ≤ k ∧ k < 512 then .tuple #[.int .u64 (f * 512 + k), .int .i64 0] else .tuple #[.int .u64 0, .int .i64 2]
theorem or_word (p k : Int) (p0 : 0 ≤ p) (p1 : p ≤ 1048576) (k0 : 0 ≤ k) (k1 : k < 512) : bits .or .u64 (p * 512) k = p * 512 + k := by
  obtain ⟨P, rfl⟩ := Int.eq_ofNat_of_zero_le p0
  obtain ⟨K, rfl⟩ := Int.eq_ofNat_of_zero_le k0
  have h := Nat.shiftLeft_add_eq_or_of_lt (b := K) (i := 9) (by omega) P
  rw [Nat.shiftLeft_eq] at h
  have e1 : ((P : Int) * 512) = ((P * 512 : Nat) : Int) := by simp
  rw [e1, bits_or_u64_nat _ _ (by omega) (by omega)]
  have h' : P * 512 ||| K = P * 512 + K := h.symm
  rw [h']; simp
theorem Word_to (f k : Int) (r : Value) (hr : wordR f k = r) (w : World) :
    Calls Try.prog 38 #[.int .i64 f, .int .i64 k] w fun e w' => e = .returned r ∧ ∃ x, w' = ext w x := by
  have HR := Lib.hid hr
  clear hr
  by_cases h : 0 ≤ f ∧ f ≤ 1048576 ∧ 0 ≤ k ∧ k < 512
  · have HH := Lib.hid h
    obtain ⟨h0, h1, h2, h3⟩ := h
    have hv := or_word f k h0 h1 h2 h3
    go_enter Try.func38, Try.ntmps38
    go_wp2
    all_goals first
      | (go_ret2; refine ⟨?_, up_to⟩; rw [← HR.out, wordR, if_pos HH.out]; simp; done)
      | (exfalso; omega)
  · have HH := Lib.hid h
    clear h
    go_enter Try.func38, Try.ntmps38
    go_wp2
    all_goals first
      | (go_ret2; refine ⟨?_, up_to⟩; rw [← HR.out, wordR, if_neg HH.out]; simp; done)
      | (exfalso; exact HH.out ⟨by omega, by omega, by omega, by omega⟩)

end Go.Proofs.Ytcjklghjnbhcdaa
