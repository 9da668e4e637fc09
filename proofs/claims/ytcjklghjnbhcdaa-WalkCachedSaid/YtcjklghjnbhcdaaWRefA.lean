/- What the document's small functions of a walk cache's entry tell. -/
import Derived.Test.YtcjklghjnbhcdaaWTlbG
namespace Go.Proofs.Ytcjklghjnbhcdaa
open Go.RowKit

theorem rprefix_any (q L : Int) (hL : L = 1 ∨ L = 2 ∨ L = 3) (w : World) (r : Int) (hr : begV q L = r) :
    Calls Try.prog 67 #[.int .u64 q, .int .i8 L] w fun e w' => e = .returned (.int .u64 r) ∧ ∃ x, w' = ext w x := by
  subst hr
  rcases hL with rfl | rfl | rfl
  all_goals
    go_enter Try.func67, Try.ntmps67
    go_wp2
    go_ret
    exact ⟨ret_int (by simp [begV]), up_to⟩

set_option maxHeartbeats 1000000 in
theorem rmay_any (x : S) (w : World) :
    Calls Try.prog 65 #[x.v] w fun e w' => e = .returned (.bool x.may) ∧ ∃ x, w' = ext w x := by
  obtain ⟨a, l, p, f⟩ := x
  have hm : (decide (0 ≤ a) = false ∧ S.may ⟨a, l, p, f⟩ = false) ∨ (decide (0 ≤ a) = true ∧ decide (a ≤ 255) = false ∧ S.may ⟨a, l, p, f⟩ = false) ∨ (decide (0 ≤ a) = true ∧ decide (a ≤ 255) = true ∧ decide (1 ≤ l) = false ∧ S.may ⟨a, l, p, f⟩ = false) ∨ (decide (0 ≤ a) = true ∧ decide (a ≤ 255) = true ∧ decide (1 ≤ l) = true ∧ decide (l ≤ 3) = false ∧ S.may ⟨a, l, p, f⟩ = false) ∨ (decide (0 ≤ a) = true ∧ decide (a ≤ 255) = true ∧ decide (1 ≤ l) = true ∧ decide (l ≤ 3) = true ∧ decide (p < topOf l) = false ∧ S.may ⟨a, l, p, f⟩ = false) ∨ (decide (0 ≤ a) = true ∧ decide (a ≤ 255) = true ∧ decide (1 ≤ l) = true ∧ decide (l ≤ 3) = true ∧ decide (p < topOf l) = true ∧ decide (0 ≤ f) = false ∧ S.may ⟨a, l, p, f⟩ = false) ∨ (decide (0 ≤ a) = true ∧ decide (a ≤ 255) = true ∧ decide (1 ≤ l) = true ∧ decide (l ≤ 3) = true ∧ decide (p < topOf l) = true ∧ decide (0 ≤ f) = true ∧ decide (f < 64) = false ∧ S.may ⟨a, l, p, f⟩ = false) ∨ (decide (0 ≤ a) = true ∧ decide (a ≤ 255) = true ∧ decide (1 ≤ l) = true ∧ decide (l ≤ 3) = true ∧ decide (p < topOf l) = true ∧ decide (0 ≤ f) = true ∧ decide (f < 64) = true ∧ S.may ⟨a, l, p, f⟩ = true) := by
    simp only [S.may, decide_eq_true_eq, decide_eq_false_iff_not]
    generalize topOf l = tt
    omega
  have hL : decide (1 ≤ l) = true → decide (l ≤ 3) = true → l = 1 ∨ l = 2 ∨ l = 3 := by simp only [decide_eq_true_eq]; omega
  generalize S.may ⟨a, l, p, f⟩ = r at hm ⊢
  have hB : begV 34359738368 l = topOf l := by
    unfold begV topOf; by_cases e1 : l = 1 <;> by_cases e2 : l = 2 <;> simp [e1, e2]
  generalize topOf l = tt at hm hB
  rcases hm with ⟨h1, rfl⟩ | ⟨h1, h2, rfl⟩ | ⟨h1, h2, h3, rfl⟩ | ⟨h1, h2, h3, h4, rfl⟩ | ⟨h1, h2, h3, h4, h5, rfl⟩ | ⟨h1, h2, h3, h4, h5, h6, rfl⟩ | ⟨h1, h2, h3, h4, h5, h6, h7, rfl⟩ | ⟨h1, h2, h3, h4, h5, h6, h7, rfl⟩
  all_goals
    go_enter Try.func65, Try.ntmps65
    go_wp2
    refine wp_region_ext_lit (by kernel_rfl) (by kernel_rfl) ?_
    repeat (go_big_quiet_step ((go_at_call 67; exact extq (rprefix_any _ _ (hL h3 h4) _ tt hB))))
    refine wpQuiet_nil ?_
    rintro _ ⟨x, rfl⟩
    go_wp2
    go_ret
    exact ⟨rfl, up_to⟩

theorem rplace_any (x y : S) (w : World) (r : Bool) (hr : x.same y = r) :
    Calls Try.prog 66 #[x.v, y.v] w fun e w' => e = .returned (.bool r) ∧ ∃ x, w' = ext w x := by
  subst hr
  obtain ⟨a, l, p, f⟩ := x
  obtain ⟨a', l', p', f'⟩ := y
  go_enter Try.func66, Try.ntmps66
  go_wp2
  all_goals
    go_ret
    refine ⟨ret_bool ?_, up_to⟩
    rw [Bool.eq_iff_iff]
    simp_all [S.same]

end Go.Proofs.Ytcjklghjnbhcdaa
