/- CheckSteps, Keep, DropSteps. -/
import Derived.Test.YtcjklghjnbhcdaaRowFin
import Derived.Test.YtcjklghjnbhcdaaWTlbC
import Derived.Deep.RegionHeld3
import Derived.Deep.DrawnRows
import Derived.Laws.Small
namespace Go.Proofs.Ytcjklghjnbhcdaa
open Go.RowKit
attribute [local go_sem ↓] Go.wp_at_zero Go.wp_at_succ

theorem CheckSteps_any (l : List S) (v : Value) (w : World) (hv : Has S.enc w v l) (r : Int) (hr : chkV mostS S.may S.same l = r) :
    Calls Try.prog 33 #[v] w fun e w' => e = .returned (.int .i64 r) ∧ ∃ x, w' = ext w x := by
  have HV := Lib.hid hv; clear hv
  go_enter Try.func33, Try.ntmps33
  go_wp2_with (first
    | (go_at_call 61; refine (steps_any _).mono ?_; rintro e w' ⟨rfl, z, rfl⟩)
    | (go_at_call 62; refine (scheck_any l v _ (HV.out.below up_below) r hr).mono ?_; rintro e w' ⟨rfl, z, rfl⟩))
  go_ret
  exact ⟨rfl, up_to⟩

end Go.Proofs.Ytcjklghjnbhcdaa
