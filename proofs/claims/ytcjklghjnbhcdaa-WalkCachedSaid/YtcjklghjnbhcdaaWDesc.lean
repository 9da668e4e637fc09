/- What the functions of package desc tell. -/
import Derived.Test.YtcjklghjnbhcdaaWDescM
import Derived.Test.YtcjklghjnbhcdaaWField
import Derived.RegionTactic
import Derived.BigRegion
namespace Go.Proofs.Ytcjklghjnbhcdaa
open Go.RowKit

theorem dmask_any (pg : Bool) (k : Int) (hk : (if pg then (2 : Int) else 1) = k) (w : World) (r : Int) (hr : ((maskN pg : Nat) : Int) = r) :
    Calls Try.prog 73 #[.int .i8 k] w fun e w' => e = .returned (.int .u64 r) ∧ ∃ x, w' = ext w x := by
  subst hk hr
  have o1 : onesOr 17 12 = 258048 := by decide
  have o2 : onesOr 7 6 = 192 := by decide
  have o3 : onesOr 11 10 = 3072 := by decide
  have b1 : bits .or .u64 258048 3 = 258051 := by decide
  have b2 : bits .or .u64 258051 192 = 258243 := by decide
  have b3 : bits .or .u64 258243 3072 = 261315 := by decide
  cases pg
  all_goals
    go_enter Try.func73, Try.ntmps73
    go_wp2_with (go_at_call 91; with_reducible refine (Ones_any _ _ _).mono ?_; rintro e w' ⟨rfl, x, rfl⟩)
    go_ret
    exact ⟨rfl, up_to⟩

theorem dbit_any (X : Nat) (hX : X < 18446744073709551616) (k : Nat) (hk : k = 6 ∨ k = 7 ∨ k = 10 ∨ k = 11) (W : World) (b : Nat) [LtW b W] (h0 : W.cell? ⟨b, 0, none⟩ = some (.int .u64 (X : Int))) (r : Bool) (hr : X.testBit k = r) (kk : Int) (hkk : (k : Int) = kk) :
    Calls Try.prog 74 #[.int .i64 kk, .pointer (some ⟨b, 0, none⟩)] W fun e w' => e = .returned (.bool r) ∧ ∃ x, w' = ext W x := by
  subst hkk
  have hb := bit_one X k hX
  rw [hr] at hb
  have HX := Lib.hid hX; have HR := Lib.hid hr
  clear hX hr
  rcases hk with rfl | rfl | rfl | rfl
  all_goals
    simp at hb
    have HB := Lib.hid hb; clear hb
    go_enter Try.func74, Try.ntmps74
    go_wp2
    go_ret
    refine ⟨ret_bool ?_, up_to⟩
    rw [HB.out]
    cases r <;> rfl
end Go.Proofs.Ytcjklghjnbhcdaa
