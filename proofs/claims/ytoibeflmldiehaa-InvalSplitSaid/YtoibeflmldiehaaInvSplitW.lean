/- InvalSplit walks to true. -/
import Derived.Test.YtoibeflmldiehaaInv
namespace Go.Proofs.Ytoibeflmldiehaa
open Go.RowKit

theorem split_out (asid ea ep ef sa L pf fr : Int) (ro : Bool) (w : World) (h : ea < 0 ∨ 255 < ea ∨ 34359738368 ≤ ep ∨ asid < 0 ∨ 255 < asid) :
    Calls Try.prog 3 #[.int .i64 asid, tlb ea ep ef ro, stp sa L pf fr] w fun e w' => e = .returned (.bool true) ∧ ∃ x, w' = ext w x := by
  have H : Hid (ea < 0 ∨ 255 < ea ∨ 34359738368 ≤ ep ∨ asid < 0 ∨ 255 < asid) := h
  clear h
  go_enter Try.func3, Try.ntmps3
  go_wp2_with (go_at_call 15; refine (wakes5 _).mono ?_; rintro e w' ⟨rfl, x, rfl⟩)
  all_goals first | (go_ret; exact ⟨rfl, up_to⟩) | (exfalso; have := H.out; omega)

theorem split_in (asid ea ep ef sa L pf fr : Int) (ro : Bool) (w : World) (a1 : 0 ≤ ea) (a2 : ea ≤ 255) (a3 : ep < 34359738368) (a4 : 0 ≤ asid) (a5 : asid ≤ 255) (a6 : 0 ≤ ep)
    (b1 b2 b3 b4 b5 : Bool) (e1 : hitsB 1 asid 0 ea (decide (0 = ep)) = b1) (e2 : hitsB 2 asid ep ea true = b1) (e3 : hitsB 1 ea 0 ea (decide (0 = ep)) = true) (e4 : (asid == ea) = b1)
    (e5 : hitsStepB 2 asid ep sa L pf = b4) (e6 : hitsStepB 1 asid 0 sa L pf = b5) (h45 : b4 = true → b5 = true) (_ : b2 = true) (_ : b3 = true) :
    Calls Try.prog 3 #[.int .i64 asid, tlb ea ep ef ro, stp sa L pf fr] w fun e w' => e = .returned (.bool true) ∧ ∃ x, w' = ext w x := by
  have h45' : b4 = false ∨ (b4 = true ∧ b5 = true) := by cases b4 <;> simp_all
  clear h45
  go_enter Try.func3, Try.ntmps3
  go_wp2_with fail
  rcases h45' with rfl | ⟨rfl, rfl⟩ <;> cases b1
  all_goals
    refine wp_region_ext_lit (by kernel_rfl) (by kernel_rfl) ?_
    repeat (go_big_quiet_step (first | (go_at_call 16; exact extq (Hits_any _ _ _ _ _ _ _ _)) | (go_at_call 17; exact extq (HitsStep_any _ _ _ _ _ _ _ (by omega) (by omega) _)) | (go_at_call 15; exact extq (wakes5 _))))
    refine wpQuiet_nil ?_
    rintro _ ⟨x, rfl⟩
    go_wp2
    go_ret; exact ⟨rfl, up_to⟩

theorem split_walk (asid ea ep ef sa L pf fr : Int) (ro : Bool) (w : World) (a6 : 0 ≤ ep) :
    Calls Try.prog 3 #[.int .i64 asid, tlb ea ep ef ro, stp sa L pf fr] w fun e w' => e = .returned (.bool true) ∧ ∃ x, w' = ext w x := by
  by_cases h : ea < 0 ∨ 255 < ea ∨ 34359738368 ≤ ep ∨ asid < 0 ∨ 255 < asid
  · exact split_out _ _ _ _ _ _ _ _ _ _ h
  · have h1 : mayB 1 asid 0 = true := by simp [mayB]; omega
    have h2 : mayB 2 asid ep = true := by simp [mayB]; omega
    have h3 : mayB 1 ea 0 = true := by simp [mayB]; omega
    refine split_in asid ea ep ef sa L pf fr ro w (by omega) (by omega) (by omega) (by omega) (by omega) (by omega) (asid == ea) true true _ _ ?_ ?_ ?_ rfl rfl rfl ?_ rfl rfl
    · simp [hitsB, h1]
    · simp [hitsB, h2]
    · simp [hitsB, h3]
    · unfold hitsStepB hitsB
      rw [h1, h2]
      split
      · simp
      · simp
        intro h _; exact h

theorem InvalSplit_walk (asid ea ep ef : Int) (ro : Bool) (sa L pf fr : Int) (_ : (Lit.int .i64 asid).wf = true) (_ : (Lit.int .i64 ea).wf = true) (w2 : (Lit.int .u64 ep).wf = true) (_ : (Lit.int .i64 ef).wf = true)
    (_ : (Lit.int .i64 sa).wf = true) (_ : (Lit.int .i8 L).wf = true) (_ : (Lit.int .u64 pf).wf = true) (_ : (Lit.int .i64 fr).wf = true) (w : World) :
    Calls Try.prog 3 #[.int .i64 asid, tlb ea ep ef ro, stp sa L pf fr] w fun e w' => e = .returned (.bool true) ∧ ∃ x, w' = ext w x :=
  split_walk _ _ _ _ _ _ _ _ _ _ (bd_u64 w2).1
end Go.Proofs.Ytoibeflmldiehaa
