/- Check, missed, on, found of package walk. -/
import Derived.Test.YtcjklghjnbhcdaaWTouch
import Derived.Test.YtcjklghjnbhcdaaWAddr
import Derived.Test.YtcjklghjnbhcdaaWRef03c
namespace Go.Proofs.Ytcjklghjnbhcdaa
open Go.RowKit

/-- Check's answer. -/
def chkW (o : Bool) (a p l f : Int) : Int := if o = true ∧ 0 ≤ l ∧ l ≤ 3 ∧ 0 ≤ f ∧ f < 64 ∧ 1 ≤ a ∧ a ≤ 255 ∧ p < 34359738368 then 0 else 2

theorem chk_cases (o : Bool) (a p l f r : Int) (h : chkW o a p l f = r) : (o = false ∧ r = 2) ∨ (o = true ∧ l < 0 ∧ r = 2) ∨ (o = true ∧ 0 ≤ l ∧ 3 < l ∧ r = 2) ∨ (o = true ∧ 0 ≤ l ∧ l ≤ 3 ∧ f < 0 ∧ r = 2) ∨
    (o = true ∧ 0 ≤ l ∧ l ≤ 3 ∧ 0 ≤ f ∧ 64 ≤ f ∧ r = 2) ∨ (o = true ∧ 0 ≤ l ∧ l ≤ 3 ∧ 0 ≤ f ∧ f < 64 ∧ a < 1 ∧ r = 2) ∨ (o = true ∧ 0 ≤ l ∧ l ≤ 3 ∧ 0 ≤ f ∧ f < 64 ∧ 1 ≤ a ∧ 255 < a ∧ r = 2) ∨
    (o = true ∧ 0 ≤ l ∧ l ≤ 3 ∧ 0 ≤ f ∧ f < 64 ∧ 1 ≤ a ∧ a ≤ 255 ∧ 34359738368 ≤ p ∧ r = 2) ∨ (o = true ∧ 0 ≤ l ∧ l ≤ 3 ∧ 0 ≤ f ∧ f < 64 ∧ 1 ≤ a ∧ a ≤ 255 ∧ p < 34359738368 ∧ r = 0) := by
  unfold chkW at h
  cases o
  · simp at h; exact .inl ⟨rfl, h.symm⟩
  · simp only [true_and] at h
    simp only [reduceCtorEq, true_and, false_and, false_or]
    split at h <;> omega

set_option maxHeartbeats 1000000 in
theorem wcheck_any (o : Bool) (a p l f : Int) (w : World) (r : Int) (hr : chkW o a p l f = r) :
    Calls Try.prog 18 #[.agg #[.bool o, .int .i64 a, .int .u64 p, .int .i8 l, .int .i64 f]] w fun e w' => e = .returned (.int .i64 r) ∧ ∃ x, w' = ext w x := by
  rcases chk_cases o a p l f r hr with ⟨rfl, rfl⟩ | ⟨rfl, h1, rfl⟩ | ⟨rfl, h1, h2, rfl⟩ | ⟨rfl, h1, h2, h3, rfl⟩ | ⟨rfl, h1, h2, h3, h4, rfl⟩ | ⟨rfl, h1, h2, h3, h4, h5, rfl⟩ | ⟨rfl, h1, h2, h3, h4, h5, h6, rfl⟩ | ⟨rfl, h1, h2, h3, h4, h5, h6, h7, rfl⟩ | ⟨rfl, h1, h2, h3, h4, h5, h6, h7, rfl⟩
  all_goals
    clear hr
    go_enter Try.func18, Try.ntmps18
    go_wp2
    go_ret
    exact ⟨rfl, up_to⟩
set_option maxHeartbeats 1000000 in
theorem rwcheck_any (o : Bool) (a p l f : Int) (w : World) (r : Int) (hr : chkW o a p l f = r) :
    Calls Try.prog 19 #[.agg #[.bool o, .int .i64 a, .int .u64 p, .int .i8 l, .int .i64 f]] w fun e w' => e = .returned (.int .i64 r) ∧ ∃ x, w' = ext w x := by
  rcases chk_cases o a p l f r hr with ⟨rfl, rfl⟩ | ⟨rfl, h1, rfl⟩ | ⟨rfl, h1, h2, rfl⟩ | ⟨rfl, h1, h2, h3, rfl⟩ | ⟨rfl, h1, h2, h3, h4, rfl⟩ | ⟨rfl, h1, h2, h3, h4, h5, rfl⟩ | ⟨rfl, h1, h2, h3, h4, h5, h6, rfl⟩ | ⟨rfl, h1, h2, h3, h4, h5, h6, h7, rfl⟩ | ⟨rfl, h1, h2, h3, h4, h5, h6, h7, rfl⟩
  all_goals
    clear hr
    go_enter Try.func19, Try.ntmps19
    go_wp2
    go_ret
    exact ⟨rfl, up_to⟩
end Go.Proofs.Ytcjklghjnbhcdaa
