/- What the document's small functions of a walk cache's entry tell. -/
import Derived.Test.YtpolilljglfkoaaTlbGS
namespace Go.Proofs.Ytpolilljglfkoaa
open Go.RowKit

theorem rprefix_any (q L : Int) (hL : L = 1 ∨ L = 2 ∨ L = 3) (w : World) (r : Int) (hr : begV q L = r) :
    Calls Try.prog 62 #[.int .u64 q, .int .i8 L] w fun e w' => e = .returned (.int .u64 r) ∧ ∃ x, w' = ext w x := by
  subst hr
  rcases hL with rfl | rfl | rfl
  all_goals
    go_enter Try.func62, Try.ntmps62
    go_wp2
    go_ret
    exact ⟨ret_int (by simp [begV]), up_to⟩

set_option maxHeartbeats 1000000 in
theorem rmay_any (x : S) (w : World) :
    Calls Try.prog 59 #[x.v] w fun e w' => e = .returned (.bool x.may) ∧ ∃ x, w' = ext w x := by
  obtain ⟨a, l, p, f⟩ := x
  have hm : (decide (0 ≤ a) = false ∧ S.may ⟨a, l, p, f⟩ = false) ∨ (decide (0 ≤ a) = true ∧ decide (a ≤ 255) = false ∧ S.may ⟨a, l, p, f⟩ = false) ∨ (decide (0 ≤ a) = true ∧ decide (a ≤ 255) = true ∧ decide (1 ≤ l) = false ∧ S.may ⟨a, l, p, f⟩ = false) ∨ (decide (0 ≤ a) = true ∧ decide (a ≤ 255) = true ∧ decide (1 ≤ l) = true ∧ decide (l ≤ 3) = false ∧ S.may ⟨a, l, p, f⟩ = false) ∨ (decide (0 ≤ a) = true ∧ decide (a ≤ 255) = true ∧ decide (1 ≤ l) = true ∧ decide (l ≤ 3) = true ∧ decide (p < topOf l) = false ∧ S.may ⟨a, l, p, f⟩ = false) ∨ (decide (0 ≤ a) = true ∧ decide (a ≤ 255) = true ∧ decide (1 ≤ l) = true ∧ decide (l ≤ 3) = true ∧ decide (p < topOf l) = true ∧ decide (0 ≤ f) = false ∧ S.may ⟨a, l, p, f⟩ = false) ∨ (decide (0 ≤ a) = true ∧ decide (a ≤ 255) = true ∧ decide (1 ≤ l) = true ∧ decide (l ≤ 3) = true ∧ decide (p < topOf l) = true ∧ decide (0 ≤ f) = true ∧ decide (f < 64) = false ∧ S.may ⟨a, l, p, f⟩ = false) ∨ (decide (0 ≤ a) = true ∧ decide (a ≤ 255) = true ∧ decide (1 ≤ l) = true ∧ decide (l ≤ 3) = true ∧ decide (p < topOf l) = true ∧ decide (0 ≤ f) = true ∧ decide (f < 64) = true ∧ S.may ⟨a, l, p, f⟩ = true) := by
    simp only [S.may, decide_eq_true_eq, decide_eq_false_iff_not]
    generalize topOf l = tt
    omega
  have hL : decide (1 ≤ l) = true → decide (l ≤ 3) = true → l = 1 ∨ l = 2 ∨ l = 3 := by simp only [decide_eq_true_eq]; omega
  generalize S.may ⟨a, l, p, f⟩ = r at hm ⊢
  have hB : begV 34359738368 l = topOf l := by
    unfold begV topOf; by_cases e1 : l = 1 <;> by_cases e2 : l = 2 <;> simp [e1, e2]
  generalize topOf l = tt at hm hB
  rcases hm with ⟨h1, rfl⟩ | ⟨h1, h2, rfl⟩ | ⟨h1, h2, h3, rfl⟩ | ⟨h1, h2, h3, h4, rfl⟩ | ⟨h1, h2, h3, h4, h5, rfl⟩ | ⟨h1, h2, h3, h4, h5, h6, rfl⟩ | ⟨h1, h2, h3, h4, h5, h6, h7, rfl⟩ | ⟨h1, h2, h3, h4, h5, h6, h7, rfl⟩
  all_goals
    go_enter Try.func59, Try.ntmps59
    go_wp2
    refine wp_region_ext_lit (by kernel_rfl) (by kernel_rfl) ?_
    repeat (go_big_quiet_step ((go_at_call 62; exact extq (rprefix_any _ _ (hL h3 h4) _ tt hB))))
    refine wpQuiet_nil ?_
    rintro _ ⟨x, rfl⟩
    go_wp2
    go_ret
    exact ⟨rfl, up_to⟩

theorem rplace_any (x y : S) (w : World) (r : Bool) (hr : x.same y = r) :
    Calls Try.prog 60 #[x.v, y.v] w fun e w' => e = .returned (.bool r) ∧ ∃ x, w' = ext w x := by
  subst hr
  obtain ⟨a, l, p, f⟩ := x
  obtain ⟨a', l', p', f'⟩ := y
  go_enter Try.func60, Try.ntmps60
  go_wp2
  all_goals
    go_ret
    refine ⟨ret_bool ?_, up_to⟩
    rw [Bool.eq_iff_iff]
    simp_all [S.same]

theorem rmayt_any (k a p : Int) (w : World) (r : Bool) (hr : mayB k a p = r) :
    Calls Try.prog 45 #[tlbi k a p] w fun e w' => e = .returned (.bool r) ∧ ∃ x, w' = ext w x := by
  subst hr
  go_enter Try.func45, Try.ntmps45
  go_wp2
  all_goals
    go_ret
    refine ⟨ret_bool ?_, up_to⟩
    rw [Bool.eq_iff_iff]
    simp_all [mayB]
  all_goals omega

theorem begB_begV (q L pf : Int) : begB L pf q = (begV q L == pf) := by
  unfold begB begV
  by_cases e1 : L = 1 <;> by_cases e2 : L = 2 <;> simp [e1, e2] <;> (rw [Bool.eq_iff_iff]; simp)

set_option maxHeartbeats 1000000 in
theorem rhits_any (k a q : Int) (x : S) (w : World) (r : Bool) (hr : S.hits k a q x = r) :
    Calls Try.prog 63 #[tlbi k a q, x.v] w fun e w' => e = .returned (.bool r) ∧ ∃ x, w' = ext w x := by
  subst hr
  obtain ⟨xa, xl, xp, xf⟩ := x
  obtain ⟨bv, hbv⟩ : ∃ bv, begV q xl = bv := ⟨_, rfl⟩
  have hr : S.hits k a q ⟨xa, xl, xp, xf⟩ = (mayB k a q && ((k == 0) || (decide (1 ≤ xl) && (decide (xl ≤ 3) && ((a == xa) && ((k == 1) || (bv == xp))))))) := by
    unfold S.hits hitsStepB
    simp only
    split
    · rename_i h
      have : (decide (1 ≤ xl) && (decide (xl ≤ 3) && ((a == xa) && ((k == 1) || (bv == xp))))) = false := by
        rcases h with h | h
        · have : decide (1 ≤ xl) = false := by simp; omega
          rw [this]; rfl
        · have : decide (xl ≤ 3) = false := by simp; omega
          rw [this]; simp
      rw [this]; simp
    · rename_i h
      have h1 : decide (1 ≤ xl) = true := by simp; omega
      have h2 : decide (xl ≤ 3) = true := by simp; omega
      rw [h1, h2, hitsB, begB_begV, hbv]; simp
  rw [hr]
  clear hr
  have hL : decide (1 ≤ xl) = true → decide (xl ≤ 3) = true → xl = 1 ∨ xl = 2 ∨ xl = 3 := by simp only [decide_eq_true_eq]; omega
  cases hm : mayB k a q
  · go_enter Try.func63, Try.ntmps63
    go_wp2_with (go_at_call 45; refine (rmayt_any _ _ _ _ _ hm).mono ?_; rintro e w' ⟨rfl, z, rfl⟩)
    go_ret
    exact ⟨rfl, up_to⟩
  · cases hk : (k == 0)
    · cases h1 : decide (1 ≤ xl)
      · go_enter Try.func63, Try.ntmps63
        go_wp2_with (go_at_call 45; refine (rmayt_any _ _ _ _ _ hm).mono ?_; rintro e w' ⟨rfl, z, rfl⟩)
        go_quiet (fail)
        go_wp2
        go_ret
        exact ⟨rfl, up_to⟩
      · cases h2 : decide (xl ≤ 3)
        · go_enter Try.func63, Try.ntmps63
          go_wp2_with (go_at_call 45; refine (rmayt_any _ _ _ _ _ hm).mono ?_; rintro e w' ⟨rfl, z, rfl⟩)
          go_quiet (fail)
          go_wp2
          go_ret
          exact ⟨rfl, up_to⟩
        · have hLL := hL h1 h2
          cases h3 : (a == xa)
          · go_enter Try.func63, Try.ntmps63
            go_wp2_with (go_at_call 45; refine (rmayt_any _ _ _ _ _ hm).mono ?_; rintro e w' ⟨rfl, z, rfl⟩)
            go_quiet (fail)
            go_wp2
            go_ret
            exact ⟨rfl, up_to⟩
          · cases h4 : (k == 1)
            · go_enter Try.func63, Try.ntmps63
              go_wp2_with (go_at_call 45; refine (rmayt_any _ _ _ _ _ hm).mono ?_; rintro e w' ⟨rfl, z, rfl⟩)
              refine wp_region_ext_lit (by kernel_rfl) (by kernel_rfl) ?_
              repeat (go_big_quiet_step ((go_at_call 62; exact extq (rprefix_any _ _ hLL _ bv hbv))))
              refine wpQuiet_nil ?_
              rintro _ ⟨x, rfl⟩
              go_wp2
              go_ret
              exact ⟨rfl, up_to⟩
            · go_enter Try.func63, Try.ntmps63
              go_wp2_with (go_at_call 45; refine (rmayt_any _ _ _ _ _ hm).mono ?_; rintro e w' ⟨rfl, z, rfl⟩)
              go_quiet (fail)
              go_wp2
              go_ret
              exact ⟨rfl, up_to⟩
    · go_enter Try.func63, Try.ntmps63
      go_wp2_with (go_at_call 45; refine (rmayt_any _ _ _ _ _ hm).mono ?_; rintro e w' ⟨rfl, z, rfl⟩)
      go_ret
      exact ⟨rfl, up_to⟩
end Go.Proofs.Ytpolilljglfkoaa
