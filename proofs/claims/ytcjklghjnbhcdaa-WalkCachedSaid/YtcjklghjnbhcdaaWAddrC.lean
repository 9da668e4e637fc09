/- The reference's functions of addresses, and what wakes says. -/
import Derived.Test.YtcjklghjnbhcdaaWAddr
namespace Go.Proofs.Ytcjklghjnbhcdaa
open Go.RowKit

theorem refIndex_to (p level : Int) (p0 : 0 ≤ p) (p2 : p < 18446744073709551616) (r : Value) (hr : indexR p level = r) (w : World) :
    Calls Try.prog 39 #[.int .u64 p, .int .i64 level] w fun e w' => e = .returned r ∧ ∃ x, w' = ext w x := by
  have HR := Lib.hid hr
  clear hr
  cases hk : okPL p level with
  | false =>
    have hk' := hk
    simp only [okPL, decide_eq_false_iff_not] at hk'
    have HK := Lib.hid hk
    have HH := Lib.hid hk'
    clear hk hk'
    go_enter Try.func39, Try.ntmps39
    go_wp2_with fail
    all_goals first
      | (go_ret2; exact ⟨by rw [← HR.out, indexR, HK.out]; simp, up_to⟩)
      | (exfalso; exact HH.out ⟨by omega, by omega, by omega⟩)
  | true =>
    have HK := Lib.hid hk
    simp only [okPL, decide_eq_true_eq] at hk
    obtain ⟨h1, h2, h3⟩ := hk
    obtain ⟨g0, g1, g2, g3, _⟩ := got p p0 h1
    rcases (by omega : level = 0 ∨ level = 1 ∨ level = 2 ∨ level = 3) with rfl | rfl | rfl | rfl
    all_goals
      go_enter Try.func39, Try.ntmps39
      go_wp2_with (go_at_call 70; refine (refGet_any _ _ _ p0 p2 _).mono ?_; rintro e w' ⟨rfl, x, rfl⟩)
      go_ret2
      refine ⟨?_, up_to⟩
      rw [← HR.out, indexR, HK.out]
      simp [indexV]

theorem refPrefix_to (p level : Int) (p0 : 0 ≤ p) (p2 : p < 18446744073709551616) (r : Value) (hr : prefixR p level = r) (w : World) :
    Calls Try.prog 45 #[.int .u64 p, .int .i64 level] w fun e w' => e = .returned r ∧ ∃ x, w' = ext w x := by
  have HR := Lib.hid hr
  clear hr
  cases hk : okPL p level with
  | false =>
    have hk' := hk
    simp only [okPL, decide_eq_false_iff_not] at hk'
    have HK := Lib.hid hk
    have HH := Lib.hid hk'
    clear hk hk'
    go_enter Try.func45, Try.ntmps45
    go_wp2
    all_goals first
      | (exfalso; have := HH.out; omega)
      | (go_ret2; refine ⟨?_, up_to⟩; rw [← HR.out, prefixR, HK.out]; simp)
  | true =>
    have HK := Lib.hid hk
    simp only [okPL, decide_eq_true_eq] at hk
    obtain ⟨h1, h2, h3⟩ := hk
    rcases (by omega : level = 0 ∨ level = 1 ∨ level = 2 ∨ level = 3) with rfl | rfl | rfl | rfl
    all_goals
      go_enter Try.func45, Try.ntmps45
      go_wp2_with fail
      go_ret2
      refine ⟨?_, up_to⟩
      rw [← HR.out, prefixR, HK.out]
      simp [prefixV]

end Go.Proofs.Ytcjklghjnbhcdaa
