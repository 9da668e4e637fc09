/- The word that a walk reads next: of package walk, of the document. -/
import Derived.Test.YtcjklghjnbhcdaaWWalk
import Derived.Test.YtcjklghjnbhcdaaWAddrC
namespace Go.Proofs.Ytcjklghjnbhcdaa
open Go.RowKit

/-- The word of a walk. -/
def wordV (o : Bool) (a p l f : Int) : Int := if chkW o a p l f = 0 then f * 512 + indexV p l else 0

theorem index_bounds (p l : Int) (p0 : 0 ≤ p) : 0 ≤ indexV p l ∧ indexV p l < 512 := by
  unfold indexV
  split
  · omega
  · split
    · omega
    · split <;> omega

theorem chk_two' {o : Bool} {a p l f : Int} (h : ¬ chkW o a p l f = 0) : chkW o a p l f = 2 := by
  unfold chkW at h ⊢; split at h
  · exact absurd rfl h
  · rw [if_neg (by assumption)]
theorem chk_zero {o : Bool} {a p l f : Int} (h : chkW o a p l f = 0) : o = true ∧ 0 ≤ l ∧ l ≤ 3 ∧ 0 ≤ f ∧ f < 64 ∧ 1 ≤ a ∧ a ≤ 255 ∧ p < 34359738368 := by
  unfold chkW at h; split at h
  · assumption
  · cases h

set_option maxHeartbeats 1000000 in
theorem word_any (o : Bool) (a p l f : Int) (p0 : 0 ≤ p) (w : World) (r : Int) (hr : wordV o a p l f = r) (c : Int) (hc : chkW o a p l f = c) :
    Calls Try.prog 16 #[.agg #[.bool o, .int .i64 a, .int .u64 p, .int .i8 l, .int .i64 f]] w fun e w' => e = .returned (.tuple #[.int .u64 r, .int .i64 c]) ∧ ∃ x, w' = ext w x := by
  by_cases h : chkW o a p l f = 0
  · obtain ⟨rfl, l0, l3, f0, f1, a1, a2, p1⟩ := chk_zero h
    rw [wordV, if_pos h] at hr
    rw [h] at hc
    obtain ⟨i0, i1⟩ := index_bounds p l p0
    have hi : indexR p l = .tuple #[.int .i64 (indexV p l), .int .i64 0] := by unfold indexR okPL; rw [decide_eq_true (by omega)]; rfl
    generalize indexV p l = q at *
    have hw : wordR f q = .tuple #[.int .u64 r, .int .i64 0] := by unfold wordR; rw [if_pos (by omega), hr]
    subst hc
    have HW := Lib.hid hw; have HI := Lib.hid hi; have HC := Lib.hid h; have H0 := Lib.hid p0; have H1 := Lib.hid (show p < 18446744073709551616 by omega)
    clear hw hi h hr p0 p1 a1 a2 f0 f1 i0 i1
    go_enter Try.func16, Try.ntmps16
    go_wp2_with (first
      | (go_at_call 18; with_reducible refine (wcheck_any true a p l f _ 0 HC.out).mono ?_; rintro e w' ⟨rfl, z, rfl⟩; simp only [])
      | (go_at_call 37; with_reducible refine (Index_to p l H0.out H1.out _ HI.out _).mono ?_; rintro e w' ⟨rfl, z, rfl⟩; simp only [])
      | (go_at_call 38; with_reducible refine (Word_to f q _ HW.out _).mono ?_; rintro e w' ⟨rfl, z, rfl⟩; simp only []))
    go_ret2
    exact ⟨rfl, up_to⟩
  · rw [wordV, if_neg h] at hr
    rw [chk_two' h] at hc
    subst hr hc
    have HC := Lib.hid (chk_two' h)
    clear h
    go_enter Try.func16, Try.ntmps16
    go_wp2_with (first
      | (go_at_call 18; with_reducible refine (wcheck_any o a p l f _ 2 HC.out).mono ?_; rintro e w' ⟨rfl, z, rfl⟩; simp only []))
    go_ret2
    exact ⟨rfl, up_to⟩

set_option maxHeartbeats 1000000 in
theorem rword_any (o : Bool) (a p l f : Int) (p0 : 0 ≤ p) (w : World) (r : Int) (hr : wordV o a p l f = r) (c : Int) (hc : chkW o a p l f = c) :
    Calls Try.prog 17 #[.agg #[.bool o, .int .i64 a, .int .u64 p, .int .i8 l, .int .i64 f]] w fun e w' => e = .returned (.tuple #[.int .u64 r, .int .i64 c]) ∧ ∃ x, w' = ext w x := by
  by_cases h : chkW o a p l f = 0
  · obtain ⟨rfl, l0, l3, f0, f1, a1, a2, p1⟩ := chk_zero h
    rw [wordV, if_pos h] at hr
    rw [h] at hc
    obtain ⟨i0, i1⟩ := index_bounds p l p0
    have hi : indexR p l = .tuple #[.int .i64 (indexV p l), .int .i64 0] := by unfold indexR okPL; rw [decide_eq_true (by omega)]; rfl
    generalize indexV p l = q at *
    subst hc hr
    have HI := Lib.hid hi; have HC := Lib.hid h; have H0 := Lib.hid p0; have H1 := Lib.hid (show p < 18446744073709551616 by omega)
    clear hi h p0 p1 a1 a2
    go_enter Try.func17, Try.ntmps17
    go_wp2_with (first
      | (go_at_call 19; with_reducible refine (rwcheck_any true a p l f _ 0 HC.out).mono ?_; rintro e w' ⟨rfl, z, rfl⟩; simp only [])
      | (go_at_call 39; with_reducible refine (refIndex_to p l H0.out H1.out _ HI.out _).mono ?_; rintro e w' ⟨rfl, z, rfl⟩; simp only []))
    go_ret2
    exact ⟨rfl, up_to⟩
  · rw [wordV, if_neg h] at hr
    rw [chk_two' h] at hc
    subst hr hc
    have HC := Lib.hid (chk_two' h)
    clear h
    go_enter Try.func17, Try.ntmps17
    go_wp2_with (first
      | (go_at_call 19; with_reducible refine (rwcheck_any o a p l f _ 2 HC.out).mono ?_; rintro e w' ⟨rfl, z, rfl⟩; simp only []))
    go_ret2
    exact ⟨rfl, up_to⟩
end Go.Proofs.Ytcjklghjnbhcdaa
