/- The reference's functions of addresses, and what wakes says. -/
import Derived.Test.YtoibeflmldiehaaAddrB
namespace Go.Proofs.Ytoibeflmldiehaa
open Go.RowKit

theorem refUser_any (v : Int) (_ : 0 ≤ v) (_ : v < 18446744073709551616) (w : World) :
    Calls Try.prog 43 #[.int .u64 v] w fun e w' => e = .returned (.bool (v / 140737488355328 == 0)) ∧ ∃ x, w' = ext w x := by
  go_enter Try.func43, Try.ntmps43
  go_wp2
  go_ret; exact ⟨by simp, up_to⟩
theorem refAligned_any (v : Int) (_ : 0 ≤ v) (_ : v < 18446744073709551616) (w : World) :
    Calls Try.prog 45 #[.int .u64 v] w fun e w' => e = .returned (.bool (v % 8 == 0)) ∧ ∃ x, w' = ext w x := by
  go_enter Try.func45, Try.ntmps45
  go_wp2
  go_ret; exact ⟨by simp, up_to⟩
theorem refPage_any (v : Int) (_ : 0 ≤ v) (_ : v < 18446744073709551616) (w : World) :
    Calls Try.prog 47 #[.int .u64 v] w fun e w' => e = .returned (.int .u64 (v / 4096)) ∧ ∃ x, w' = ext w x := by
  go_enter Try.func47, Try.ntmps47
  go_wp2
  go_ret; exact ⟨by simp, up_to⟩
theorem refPlace_any (v : Int) (v0 : 0 ≤ v) (v1 : v < 18446744073709551616) (w : World) :
    Calls Try.prog 49 #[.int .u64 v] w fun e w' => e = .returned (.int .i64 (v / 8 % 512)) ∧ ∃ x, w' = ext w x := by
  obtain ⟨_, _, _, g, _⟩ := got_va v v0 v1
  go_enter Try.func49, Try.ntmps49
  go_wp2_with (go_at_call 33; refine (refGet_any _ _ _ v0 v1 _).mono ?_; rintro e w' ⟨rfl, x, rfl⟩)
  go_ret; exact ⟨by simp, up_to⟩

theorem refVa_to (p k : Int) (p0 : 0 ≤ p) (r : Value) (hr : vaR p k = r) (w : World) :
    Calls Try.prog 41 #[.int .u64 p, .int .i64 k] w fun e w' => e = .returned r ∧ ∃ x, w' = ext w x := by
  have HR := Lib.hid hr
  clear hr
  by_cases h : p < 34359738368 ∧ 0 ≤ k ∧ k < 512
  · have HH := Lib.hid h
    obtain ⟨h1, h2, h3⟩ := h
    go_enter Try.func41, Try.ntmps41
    go_wp2
    all_goals first
      | (go_ret2; refine ⟨?_, up_to⟩; rw [← HR.out, vaR, if_pos HH.out]; simp; done)
      | (exfalso; omega)
  · have HH := Lib.hid h
    clear h
    go_enter Try.func41, Try.ntmps41
    go_wp2
    all_goals first
      | (go_ret2; refine ⟨?_, up_to⟩; rw [← HR.out, vaR, if_neg HH.out]; simp; done)
      | (exfalso; exact HH.out ⟨by omega, by omega, by omega⟩)
theorem refWord_to (f k : Int) (r : Value) (hr : wordR f k = r) (w : World) :
    Calls Try.prog 51 #[.int .i64 f, .int .i64 k] w fun e w' => e = .returned r ∧ ∃ x, w' = ext w x := by
  have HR := Lib.hid hr
  clear hr
  by_cases h : 0 ≤ f ∧ f ≤ 1048576 ∧ 0 ≤ k ∧ k < 512
  · have HH := Lib.hid h
    obtain ⟨h0, h1, h2, h3⟩ := h
    go_enter Try.func51, Try.ntmps51
    go_wp2
    all_goals first
      | (go_ret2; refine ⟨?_, up_to⟩; rw [← HR.out, wordR, if_pos HH.out]; simp; done)
      | (exfalso; omega)
  · have HH := Lib.hid h
    clear h
    go_enter Try.func51, Try.ntmps51
    go_wp2
    all_goals first
      | (go_ret2; refine ⟨?_, up_to⟩; rw [← HR.out, wordR, if_neg HH.out]; simp; done)
      | (exfalso; exact HH.out ⟨by omega, by omega, by omega, by omega⟩)
theorem refSplit_to (v : Int) (v0 : 0 ≤ v) (v1 : v < 18446744073709551616) (r : Value) (hr : splitR v = r) (w : World) :
    Calls Try.prog 53 #[.int .u64 v] w fun e w' => e = .returned r ∧ ∃ x, w' = ext w x := by
  have HR := Lib.hid hr
  clear hr
  by_cases h : v ≤ 1099511627776
  · go_enter Try.func53, Try.ntmps53
    go_wp2
    go_ret2; refine ⟨?_, up_to⟩; rw [← HR.out, splitR, if_pos h]; simp
  · have HH : Hid (¬ v ≤ 1099511627776) := h
    go_enter Try.func53, Try.ntmps53
    go_wp2
    go_ret2; refine ⟨?_, up_to⟩; rw [← HR.out, splitR, if_neg (by have := HH.out; omega)]; simp

theorem refIndex_to (p level : Int) (p0 : 0 ≤ p) (p2 : p < 18446744073709551616) (r : Value) (hr : indexR p level = r) (w : World) :
    Calls Try.prog 21 #[.int .u64 p, .int .i64 level] w fun e w' => e = .returned r ∧ ∃ x, w' = ext w x := by
  have HR := Lib.hid hr
  clear hr
  cases hk : okPL p level with
  | false =>
    have hk' := hk
    simp only [okPL, decide_eq_false_iff_not] at hk'
    have HK := Lib.hid hk
    have HH := Lib.hid hk'
    clear hk hk'
    go_enter Try.func21, Try.ntmps21
    go_wp2_with fail
    all_goals first
      | (go_ret2; exact ⟨by rw [← HR.out, indexR, HK.out]; simp, up_to⟩)
      | (exfalso; exact HH.out ⟨by omega, by omega, by omega⟩)
  | true =>
    have HK := Lib.hid hk
    simp only [okPL, decide_eq_true_eq] at hk
    obtain ⟨h1, h2, h3⟩ := hk
    obtain ⟨g0, g1, g2, g3, _⟩ := got p p0 h1
    rcases (by omega : level = 0 ∨ level = 1 ∨ level = 2 ∨ level = 3) with rfl | rfl | rfl | rfl
    all_goals
      go_enter Try.func21, Try.ntmps21
      go_wp2_with (go_at_call 33; refine (refGet_any _ _ _ p0 p2 _).mono ?_; rintro e w' ⟨rfl, x, rfl⟩)
      go_ret2
      refine ⟨?_, up_to⟩
      rw [← HR.out, indexR, HK.out]
      simp [indexV]

theorem refPrefix_to (p level : Int) (p0 : 0 ≤ p) (p2 : p < 18446744073709551616) (r : Value) (hr : prefixR p level = r) (w : World) :
    Calls Try.prog 23 #[.int .u64 p, .int .i64 level] w fun e w' => e = .returned r ∧ ∃ x, w' = ext w x := by
  have HR := Lib.hid hr
  clear hr
  cases hk : okPL p level with
  | false =>
    have hk' := hk
    simp only [okPL, decide_eq_false_iff_not] at hk'
    have HK := Lib.hid hk
    have HH := Lib.hid hk'
    clear hk hk'
    go_enter Try.func23, Try.ntmps23
    go_wp2
    all_goals first
      | (exfalso; have := HH.out; omega)
      | (go_ret2; refine ⟨?_, up_to⟩; rw [← HR.out, prefixR, HK.out]; simp)
  | true =>
    have HK := Lib.hid hk
    simp only [okPL, decide_eq_true_eq] at hk
    obtain ⟨h1, h2, h3⟩ := hk
    rcases (by omega : level = 0 ∨ level = 1 ∨ level = 2 ∨ level = 3) with rfl | rfl | rfl | rfl
    all_goals
      go_enter Try.func23, Try.ntmps23
      go_wp2_with fail
      go_ret2
      refine ⟨?_, up_to⟩
      rw [← HR.out, prefixR, HK.out]
      simp [prefixV]

theorem wakes2 (w : World) :
    Calls Try.prog 26 #[] w fun e w' => e = .returned (.bool true) ∧ ∃ x, w' = ext w x := by
  have p1 : indexR 513 3 = .tuple #[.int .i64 1, .int .i64 0] := by simp [indexR, okPL, indexV]
  have p2 : indexR 513 2 = .tuple #[.int .i64 1, .int .i64 0] := by simp [indexR, okPL, indexV]
  have p3 : prefixR 513 2 = .tuple #[.int .u64 1, .int .i64 0] := by simp [prefixR, okPL, prefixV]
  have p4 : fromR 256 0 0 0 = .tuple #[.int .u64 0, .int .i64 2] := by simp [fromR, fromOk]
  go_enter Try.func26, Try.ntmps26
  go_wp2_with (first
    | (go_at_call 20; refine (Index_to _ _ (by decide) (by decide) _ (by assumption) _).mono ?_; rintro e w' ⟨rfl, x, rfl⟩)
    | (go_at_call 22; refine (Prefix_to _ _ (by decide) (by decide) _ (by assumption) _).mono ?_; rintro e w' ⟨rfl, x, rfl⟩)
    | (go_at_call 24; refine (From_to _ _ _ _ _ (by assumption) _).mono ?_; rintro e w' ⟨rfl, x, rfl⟩)
    | (go_at_call 46; refine (Page_any _ (by decide) (by decide) _).mono ?_; rintro e w' ⟨rfl, x, rfl⟩)
    | (go_at_call 48; refine (Place_any _ (by decide) (by decide) _).mono ?_; rintro e w' ⟨rfl, x, rfl⟩))
  go_ret; exact ⟨rfl, up_to⟩
end Go.Proofs.Ytoibeflmldiehaa
