/- missed of package walk. on of package walk. found of package walk. -/
import Derived.Test.YtcjklghjnbhcdaaWTouch
import Derived.Test.YtcjklghjnbhcdaaWAddr
import Derived.Test.YtcjklghjnbhcdaaWRow
namespace Go.Proofs.Ytcjklghjnbhcdaa
open Go.RowKit

set_option maxRecDepth 20000 in
set_option maxHeartbeats 1000000 in
theorem missed_any (o : Bool) (a p l f : Int) (k fr : Int) (b1 b2 b3 b4 : Bool) (x : Int) (w : World) :
    Calls Try.prog 40 #[.agg #[.bool o, .int .i64 a, .int .u64 p, .int .i8 l, .int .i64 f], .agg #[.int .i8 k, .int .i64 fr, .bool b1, .bool b2, .bool b3, .bool b4], .int .u64 x] w fun e w' =>
      e = .returned (.agg #[.bool false, .int .i64 0, .int .u64 0, .int .i8 0, .int .i64 0, .bool false, .int .i64 0, .int .i8 0, .int .u64 0, .int .i64 0, .bool false, .int .i64 0, .int .u64 0, .int .i64 0, .bool false, .bool true, .int .u64 p, .int .i8 l, .bool false, .int .u64 0]) ∧ ∃ x, w' = ext w x := by
  go_enter Try.func40, Try.ntmps40
  repeat (first
    | (with_reducible refine step_build 58 #[(5, .tmp 11)] rfl #[.bool false, .int .i64 0, .int .u64 0, .int .i8 0, .int .i64 0, .bool false, .int .i64 0, .int .i8 0, .int .u64 0, .int .i64 0, .bool false, .int .i64 0, .int .u64 0, .int .i64 0, .bool false, .bool true, .int .u64 p, .int .i8 l, .bool false, .int .u64 0] (by kernel_rfl) ?_)
    | (with_reducible refine at_op (.store 58 (.tmp 6) (.tmp 12)) rfl ?_; intro _; refine step_store20 58 (.tmp 6) (.tmp 12) rfl _ _ rfl rfl _ _ inferInstance (by kernel_rfl) rfl rfl (by simp [Value.oneCell']) _ rfl ?_; simp only [setRow_new_tc, setRow_alloc_tc, setRow_ext])
    | go_step)
  refine bodyPost_ret (v := .agg #[.bool false, .int .i64 0, .int .u64 0, .int .i8 0, .int .i64 0, .bool false, .int .i64 0, .int .i8 0, .int .u64 0, .int .i64 0, .bool false, .int .i64 0, .int .u64 0, .int .i64 0, .bool false, .bool true, .int .u64 p, .int .i8 l, .bool false, .int .u64 0]) ?_ ?_ ?_
  · exact results_cell_row rfl _ _ _ _ _ _ _ rfl (RowW.row) Try.underlying58 rfl (by kernel_rfl)
  · rfl
  · exact ⟨rfl, up_to⟩
end Go.Proofs.Ytcjklghjnbhcdaa

namespace Go.Proofs.Ytcjklghjnbhcdaa
open Go.RowKit

set_option maxRecDepth 20000 in
set_option maxHeartbeats 1000000 in
theorem on_any (o : Bool) (a p l f : Int) (p0 : 0 ≤ p) (p1 : p < 34359738368) (hl : l = 0 ∨ l = 1 ∨ l = 2) (k fr : Int) (b1 b2 b3 b4 : Bool) (x : Int) (w : World) (q : Int) (hq : prefixV p (l + 1) = q) (l1 : Int) (hl1 : l + 1 = l1) :
    Calls Try.prog 41 #[.agg #[.bool o, .int .i64 a, .int .u64 p, .int .i8 l, .int .i64 f], .agg #[.int .i8 k, .int .i64 fr, .bool b1, .bool b2, .bool b3, .bool b4], .int .u64 x] w fun e w' =>
      e = .returned (.agg #[.bool o, .int .i64 a, .int .u64 p, .int .i8 l1, .int .i64 fr, .bool true, .int .i64 a, .int .i8 l1, .int .u64 q, .int .i64 fr, .bool false, .int .i64 0, .int .u64 0, .int .i64 0, .bool false, .bool false, .int .u64 0, .int .i8 0, .bool false, .int .u64 0]) ∧ ∃ x, w' = ext w x := by
  have hp : prefixR p l1 = .tuple #[.int .u64 q, .int .i64 0] := by rw [prefixR, okPL, decide_eq_true (by omega), ← hq, ← hl1]; rfl
  have HP := Lib.hid hp; have H0 := Lib.hid p0; have H1 := Lib.hid (show p < 18446744073709551616 by omega)
  clear hp hq p0 p1
  rcases hl with rfl | rfl | rfl
  · obtain rfl : l1 = 1 := by omega
    clear hl1
    go_enter Try.func41, Try.ntmps41
    repeat (first
      | (go_at_call 71; with_reducible refine (Prefix_to p _ H0.out H1.out _ HP.out _).mono ?_; rintro e w' ⟨rfl, z, rfl⟩; simp only [])
      | (with_reducible refine at_op (.build 58 #[(0, .tmp 25), (1, .const (.bool true)), (2, .tmp 33)]) rfl ?_; intro _; refine step_build 58 #[(0, .tmp 25), (1, .const (.bool true)), (2, .tmp 33)] rfl #[.bool o, .int .i64 a, .int .u64 p, .int .i8 1, .int .i64 fr, .bool true, .int .i64 a, .int .i8 1, .int .u64 q, .int .i64 fr, .bool false, .int .i64 0, .int .u64 0, .int .i64 0, .bool false, .bool false, .int .u64 0, .int .i8 0, .bool false, .int .u64 0] (by kernel_rfl) ?_)
      | (with_reducible refine at_op (.store 58 (.tmp 6) (.tmp 34)) rfl ?_; intro _; refine step_store20 58 (.tmp 6) (.tmp 34) rfl _ _ rfl rfl _ _ inferInstance (by kernel_rfl) rfl rfl (by simp [Value.oneCell']) _ rfl ?_; simp only [setRow_new_tc, setRow_alloc_tc, setRow_ext])
      | go_step | go_upon)
    refine bodyPost_ret (v := .agg #[.bool o, .int .i64 a, .int .u64 p, .int .i8 1, .int .i64 fr, .bool true, .int .i64 a, .int .i8 1, .int .u64 q, .int .i64 fr, .bool false, .int .i64 0, .int .u64 0, .int .i64 0, .bool false, .bool false, .int .u64 0, .int .i8 0, .bool false, .int .u64 0]) ?_ ?_ ?_
    · exact results_cell_row rfl _ _ _ _ _ _ _ rfl (RowW.row) Try.underlying58 rfl (by kernel_rfl)
    · rfl
    · exact ⟨rfl, up_to⟩
  · obtain rfl : l1 = 2 := by omega
    clear hl1
    go_enter Try.func41, Try.ntmps41
    repeat (first
      | (go_at_call 71; with_reducible refine (Prefix_to p _ H0.out H1.out _ HP.out _).mono ?_; rintro e w' ⟨rfl, z, rfl⟩; simp only [])
      | (with_reducible refine at_op (.build 58 #[(0, .tmp 25), (1, .const (.bool true)), (2, .tmp 33)]) rfl ?_; intro _; refine step_build 58 #[(0, .tmp 25), (1, .const (.bool true)), (2, .tmp 33)] rfl #[.bool o, .int .i64 a, .int .u64 p, .int .i8 2, .int .i64 fr, .bool true, .int .i64 a, .int .i8 2, .int .u64 q, .int .i64 fr, .bool false, .int .i64 0, .int .u64 0, .int .i64 0, .bool false, .bool false, .int .u64 0, .int .i8 0, .bool false, .int .u64 0] (by kernel_rfl) ?_)
      | (with_reducible refine at_op (.store 58 (.tmp 6) (.tmp 34)) rfl ?_; intro _; refine step_store20 58 (.tmp 6) (.tmp 34) rfl _ _ rfl rfl _ _ inferInstance (by kernel_rfl) rfl rfl (by simp [Value.oneCell']) _ rfl ?_; simp only [setRow_new_tc, setRow_alloc_tc, setRow_ext])
      | go_step | go_upon)
    refine bodyPost_ret (v := .agg #[.bool o, .int .i64 a, .int .u64 p, .int .i8 2, .int .i64 fr, .bool true, .int .i64 a, .int .i8 2, .int .u64 q, .int .i64 fr, .bool false, .int .i64 0, .int .u64 0, .int .i64 0, .bool false, .bool false, .int .u64 0, .int .i8 0, .bool false, .int .u64 0]) ?_ ?_ ?_
    · exact results_cell_row rfl _ _ _ _ _ _ _ rfl (RowW.row) Try.underlying58 rfl (by kernel_rfl)
    · rfl
    · exact ⟨rfl, up_to⟩
  · obtain rfl : l1 = 3 := by omega
    clear hl1
    go_enter Try.func41, Try.ntmps41
    repeat (first
      | (go_at_call 71; with_reducible refine (Prefix_to p _ H0.out H1.out _ HP.out _).mono ?_; rintro e w' ⟨rfl, z, rfl⟩; simp only [])
      | (with_reducible refine at_op (.build 58 #[(0, .tmp 25), (1, .const (.bool true)), (2, .tmp 33)]) rfl ?_; intro _; refine step_build 58 #[(0, .tmp 25), (1, .const (.bool true)), (2, .tmp 33)] rfl #[.bool o, .int .i64 a, .int .u64 p, .int .i8 3, .int .i64 fr, .bool true, .int .i64 a, .int .i8 3, .int .u64 q, .int .i64 fr, .bool false, .int .i64 0, .int .u64 0, .int .i64 0, .bool false, .bool false, .int .u64 0, .int .i8 0, .bool false, .int .u64 0] (by kernel_rfl) ?_)
      | (with_reducible refine at_op (.store 58 (.tmp 6) (.tmp 34)) rfl ?_; intro _; refine step_store20 58 (.tmp 6) (.tmp 34) rfl _ _ rfl rfl _ _ inferInstance (by kernel_rfl) rfl rfl (by simp [Value.oneCell']) _ rfl ?_; simp only [setRow_new_tc, setRow_alloc_tc, setRow_ext])
      | go_step | go_upon)
    refine bodyPost_ret (v := .agg #[.bool o, .int .i64 a, .int .u64 p, .int .i8 3, .int .i64 fr, .bool true, .int .i64 a, .int .i8 3, .int .u64 q, .int .i64 fr, .bool false, .int .i64 0, .int .u64 0, .int .i64 0, .bool false, .bool false, .int .u64 0, .int .i8 0, .bool false, .int .u64 0]) ?_ ?_ ?_
    · exact results_cell_row rfl _ _ _ _ _ _ _ rfl (RowW.row) Try.underlying58 rfl (by kernel_rfl)
    · rfl
    · exact ⟨rfl, up_to⟩
end Go.Proofs.Ytcjklghjnbhcdaa

namespace Go.Proofs.Ytcjklghjnbhcdaa
open Go.RowKit

set_option maxRecDepth 20000 in
set_option maxHeartbeats 1000000 in
theorem found_any (o : Bool) (a p l f : Int) (k fr : Int) (b1 b2 b3 b4 : Bool) (X : Nat) (hX : X < 18446744073709551616) (w : World) (v : Int) (hv : (if touchB X then (X : Int) + 1024 else 0) = v) (b : Bool) (hb : touchB X = b) (r : Value)
    (hr : (if b3 then (.agg #[.bool false, .int .i64 0, .int .u64 0, .int .i8 0, .int .i64 0, .bool false, .int .i64 0, .int .i8 0, .int .u64 0, .int .i64 0, .bool true, .int .i64 a, .int .u64 p, .int .i64 fr, .bool b2, .bool false, .int .u64 0, .int .i8 0, .bool b, .int .u64 v] : Value) else .agg #[.bool false, .int .i64 0, .int .u64 0, .int .i8 0, .int .i64 0, .bool false, .int .i64 0, .int .i8 0, .int .u64 0, .int .i64 0, .bool false, .int .i64 0, .int .u64 0, .int .i64 0, .bool false, .bool true, .int .u64 p, .int .i8 l, .bool false, .int .u64 0]) = r) :
    Calls Try.prog 42 #[.agg #[.bool o, .int .i64 a, .int .u64 p, .int .i8 l, .int .i64 f], .agg #[.int .i8 k, .int .i64 fr, .bool b1, .bool b2, .bool b3, .bool b4], .int .u64 (X : Int)] w fun e w' =>
      e = .returned r ∧ ∃ x, w' = ext w x := by
  have HX := Lib.hid hX; clear hX
  cases b3
  · simp at hr
    subst hr
    clear hv hb
    go_enter Try.func42, Try.ntmps42
    repeat (first
      | (go_at_call 40; with_reducible refine (missed_any _ _ _ _ _ _ _ _ _ _ _ _ _).mono ?_; rintro e w' ⟨rfl, z, rfl⟩; simp only [])
      | (with_reducible refine at_op (.store 58 (.tmp 6) (.tmp 16)) rfl ?_; intro _; refine step_store20 58 (.tmp 6) (.tmp 16) rfl _ _ rfl rfl _ _ inferInstance (by kernel_rfl) rfl rfl (by simp [Value.oneCell']) _ rfl ?_; simp only [setRow_new_tc, setRow_alloc_tc, setRow_drew_tc, setRow_ext])
      | go_values | go_skip | go_guarded | go_step | go_upon)
    refine bodyPost_ret (v := .agg #[.bool false, .int .i64 0, .int .u64 0, .int .i8 0, .int .i64 0, .bool false, .int .i64 0, .int .i8 0, .int .u64 0, .int .i64 0, .bool false, .int .i64 0, .int .u64 0, .int .i64 0, .bool false, .bool true, .int .u64 p, .int .i8 l, .bool false, .int .u64 0]) ?_ ?_ ?_
    · exact results_cell_row rfl _ _ _ _ _ _ _ rfl (RowW.row) Try.underlying58 rfl (by kernel_rfl)
    · rfl
    · exact ⟨rfl, up_to⟩
  · simp at hr
    subst hr
    cases b
    · rw [hb] at hv
      simp at hv
      subst hv
      have HT := Lib.hid hb; clear hb
      obtain ⟨v, hv⟩ : ∃ v, touchV X = v := ⟨_, rfl⟩
      have HV := Lib.hid hv; clear hv
      go_enter Try.func42, Try.ntmps42
      repeat (first
        | (go_at_call 72; with_reducible refine (touch_any X HX.out _ v HV.out false HT.out).mono ?_; rintro e w' ⟨rfl, z, rfl⟩; simp only [])
        | (with_reducible refine at_op (.build 58 #[(3, .const (.bool true)), (4, .tmp 25)]) rfl ?_; intro _; refine step_build 58 #[(3, .const (.bool true)), (4, .tmp 25)] rfl #[.bool false, .int .i64 0, .int .u64 0, .int .i8 0, .int .i64 0, .bool false, .int .i64 0, .int .i8 0, .int .u64 0, .int .i64 0, .bool true, .int .i64 a, .int .u64 p, .int .i64 fr, .bool b2, .bool false, .int .u64 0, .int .i8 0, .bool false, .int .u64 0] (by kernel_rfl) ?_)
        | (with_reducible refine at_op (.store 58 (.tmp 7) (.tmp 26)) rfl ?_; intro _; refine step_store20 58 (.tmp 7) (.tmp 26) rfl _ _ rfl rfl _ _ inferInstance (by kernel_rfl) rfl rfl (by simp [Value.oneCell']) _ rfl ?_; simp only [setRow_new_tc, setRow_alloc_tc, setRow_drew_tc, setRow_ext])
        | (with_reducible refine at_op (.load 58 (.tmp 7)) rfl ?_; intro _; refine step_load20 58 (.tmp 7) rfl _ rfl _ _ inferInstance _ Try.underlying58 rfl (by kernel_rfl) rfl ?_)
        | (with_reducible refine at_op (.store 58 (.tmp 6) (.tmp 36)) rfl ?_; intro _; refine step_store20 58 (.tmp 6) (.tmp 36) rfl _ _ rfl rfl _ _ inferInstance (by kernel_rfl) rfl rfl (by simp [Value.oneCell']) _ rfl ?_; simp only [setRow_new_tc, setRow_alloc_tc, setRow_drew_tc, setRow_ext])
        | go_values | go_skip | go_guarded | go_step | go_upon)
      refine bodyPost_ret (v := .agg #[.bool false, .int .i64 0, .int .u64 0, .int .i8 0, .int .i64 0, .bool false, .int .i64 0, .int .i8 0, .int .u64 0, .int .i64 0, .bool true, .int .i64 a, .int .u64 p, .int .i64 fr, .bool b2, .bool false, .int .u64 0, .int .i8 0, .bool false, .int .u64 0]) ?_ ?_ ?_
      · exact results_cell_row rfl _ _ _ _ _ _ _ rfl (RowW.row) Try.underlying58 rfl (by kernel_rfl)
      · rfl
      · exact ⟨rfl, up_to⟩
    · have hw : touchV X = v := by rw [← hv, touchV, hb]; rfl
      have HT := Lib.hid hb; have HV := Lib.hid hw; clear hb hv hw
      go_enter Try.func42, Try.ntmps42
      repeat (first
        | (go_at_call 72; with_reducible refine (touch_any X HX.out _ v HV.out true HT.out).mono ?_; rintro e w' ⟨rfl, z, rfl⟩; simp only [])
        | (with_reducible refine at_op (.build 58 #[(3, .const (.bool true)), (4, .tmp 25)]) rfl ?_; intro _; refine step_build 58 #[(3, .const (.bool true)), (4, .tmp 25)] rfl #[.bool false, .int .i64 0, .int .u64 0, .int .i8 0, .int .i64 0, .bool false, .int .i64 0, .int .i8 0, .int .u64 0, .int .i64 0, .bool true, .int .i64 a, .int .u64 p, .int .i64 fr, .bool b2, .bool false, .int .u64 0, .int .i8 0, .bool false, .int .u64 0] (by kernel_rfl) ?_)
        | (with_reducible refine at_op (.store 58 (.tmp 7) (.tmp 26)) rfl ?_; intro _; refine step_store20 58 (.tmp 7) (.tmp 26) rfl _ _ rfl rfl _ _ inferInstance (by kernel_rfl) rfl rfl (by simp [Value.oneCell']) _ rfl ?_; simp only [setRow_new_tc, setRow_alloc_tc, setRow_drew_tc, setRow_ext])
        | (with_reducible refine at_op (.load 58 (.tmp 7)) rfl ?_; intro _; refine step_load20 58 (.tmp 7) rfl _ rfl _ _ inferInstance _ Try.underlying58 rfl (by kernel_rfl) rfl ?_)
        | (with_reducible refine at_op (.store 58 (.tmp 6) (.tmp 36)) rfl ?_; intro _; refine step_store20 58 (.tmp 6) (.tmp 36) rfl _ _ rfl rfl _ _ inferInstance (by kernel_rfl) rfl rfl (by simp [Value.oneCell']) _ rfl ?_; simp only [setRow_new_tc, setRow_alloc_tc, setRow_drew_tc, setRow_ext])
        | go_values | go_skip | go_guarded | go_step | go_upon)
      refine bodyPost_ret (v := .agg #[.bool false, .int .i64 0, .int .u64 0, .int .i8 0, .int .i64 0, .bool false, .int .i64 0, .int .i8 0, .int .u64 0, .int .i64 0, .bool true, .int .i64 a, .int .u64 p, .int .i64 fr, .bool b2, .bool false, .int .u64 0, .int .i8 0, .bool true, .int .u64 v]) ?_ ?_ ?_
      · exact results_cell_row rfl _ _ _ _ _ _ _ rfl (RowW.row) Try.underlying58 rfl (by kernel_rfl)
      · rfl
      · exact ⟨rfl, up_to⟩
end Go.Proofs.Ytcjklghjnbhcdaa
