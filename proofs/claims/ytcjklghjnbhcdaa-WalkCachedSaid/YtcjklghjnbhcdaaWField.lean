/- What mask, Get, Ones, Each, Fits, Put of package field come to. -/
import Derived.Test.YtcjklghjnbhcdaaFieldM
import Derived.Test.YtcjklghjnbhcdaaExt
import Derived.Lib.Hide
namespace Go.Proofs.Ytcjklghjnbhcdaa
open Go.RowKit

abbrev span (hi lo : Int) : Value := .agg #[.int .i64 hi, .int .i64 lo]

theorem mask_yes (hi lo : Int) (h : valid hi lo) (w : World) :
    Calls Try.prog 87 #[span hi lo] w fun e w' => e = .returned (.int .u64 (onesV hi lo)) ∧ ∃ x, w' = ext w x := by
  have hv := mask_val hi lo h
  obtain ⟨h1, h2, h3⟩ := h
  go_enter Try.func87, Try.ntmps87
  go_wp2
  go_quiet (fail)
  go_wp2
  go_ret
  exact ⟨by simp, up_to⟩

theorem mask_no (hi lo : Int) (h : ¬ valid hi lo) (w : World) :
    Calls Try.prog 87 #[span hi lo] w fun e w' => e = .returned (.int .u64 0) ∧ ∃ x, w' = ext w x := by
  have H : Hid (¬ valid hi lo) := h
  clear h
  go_enter Try.func87, Try.ntmps87
  go_wp2
  · go_ret; exact ⟨rfl, up_to⟩
  · go_ret; exact ⟨rfl, up_to⟩
  · go_ret; exact ⟨rfl, up_to⟩
  · exfalso; exact H.out ⟨by omega, by omega, by omega⟩

def onesOr (hi lo : Int) : Int := if valid hi lo then onesV hi lo else 0
def getOr (x hi lo : Int) : Int := if valid hi lo then getV x hi lo else 0
theorem mask_any (hi lo : Int) (w : World) :
    Calls Try.prog 87 #[span hi lo] w fun e w' => e = .returned (.int .u64 (onesOr hi lo)) ∧ ∃ x, w' = ext w x := by
  by_cases h : valid hi lo
  · rw [onesOr, if_pos h]; exact mask_yes hi lo h w
  · rw [onesOr, if_neg h]; exact mask_no hi lo h w

theorem Ones_any (hi lo : Int) (w : World) :
    Calls Try.prog 91 #[.int .i64 hi, .int .i64 lo] w fun e w' => e = .returned (.int .u64 (onesOr hi lo)) ∧ ∃ x, w' = ext w x := by
  go_enter Try.func91, Try.ntmps91
  go_wp2_with (go_at_call 87; refine (mask_any _ _ _).mono ?_; rintro e w' ⟨rfl, x, rfl⟩)
  go_ret; exact ⟨rfl, up_to⟩

theorem Get_any (x hi lo : Int) (x0 : 0 ≤ x) (x1 : x < 18446744073709551616) (w : World) :
    Calls Try.prog 69 #[.int .u64 x, .int .i64 hi, .int .i64 lo] w fun e w' => e = .returned (.int .u64 (getOr x hi lo)) ∧ ∃ x, w' = ext w x := by
  by_cases h : valid hi lo
  · rw [getOr, if_pos h]
    have hv := get_val x hi lo h x0 x1
    have hb := ones_bound hi lo h
    have hm := mask_yes hi lo h
    have h' := h
    obtain ⟨h1, h2, h3⟩ := h'
    have hne : (onesV hi lo == 0) = false := by simp; omega
    obtain ⟨b1, b2⟩ := hb
    have Hm := Lib.hid hm; clear hm
    go_enter Try.func69, Try.ntmps69
    go_wp2_with (go_at_call 87; refine (Hm.out _).mono ?_; rintro e w' ⟨rfl, x, rfl⟩)
    go_ret; exact ⟨by simp, up_to⟩
  · rw [getOr, if_neg h]
    have Hm := Lib.hid (mask_no hi lo h)
    clear h
    go_enter Try.func69, Try.ntmps69
    go_wp2_with (go_at_call 87; refine (Hm.out _).mono ?_; rintro e w' ⟨rfl, x, rfl⟩)
    go_ret; exact ⟨by simp, up_to⟩

end Go.Proofs.Ytcjklghjnbhcdaa
