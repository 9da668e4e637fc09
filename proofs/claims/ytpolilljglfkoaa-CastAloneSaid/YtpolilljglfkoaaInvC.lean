/- What the functions of package inval come to. -/
import Derived.Test.YtpolilljglfkoaaExt
namespace Go.Proofs.Ytpolilljglfkoaa
open Go.RowKit

def mayB (k a p : Int) : Bool :=
  decide (0 ≤ a ∧ a ≤ 255 ∧ p < 34359738368 ∧ ((k = 0 ∧ a = 0 ∧ p = 0) ∨ (k = 1 ∧ p = 0) ∨ k = 2))

abbrev tlbi (k a p : Int) : Value := .agg #[.int .i8 k, .int .i64 a, .int .u64 p]

set_option maxHeartbeats 400000 in
theorem may_any (k a p : Int) (w : World) :
    Calls Try.prog 64 #[tlbi k a p] w fun e w' => e = .returned (.bool (mayB k a p)) ∧ ∃ x, w' = ext w x := by
  go_enter Try.func64, Try.ntmps64
  go_wp2
  all_goals
    go_ret
    refine ⟨ret_bool ?_, up_to⟩
    rw [Bool.eq_iff_iff]
    simp_all [mayB]
  all_goals omega

def begB (L pf q : Int) : Bool := if L = 1 then decide (q / 262144 = pf) else if L = 2 then decide (q / 512 = pf) else decide (q = pf)

abbrev stp (a l p f : Int) : Value := .agg #[.int .i64 a, .int .i8 l, .int .u64 p, .int .i64 f]

set_option maxHeartbeats 400000 in
theorem begins_any (a L pf fr q : Int) (hL : L = 1 ∨ L = 2 ∨ L = 3) (_ : 0 ≤ q) (_ : q < 18446744073709551616) (w : World) :
    Calls Try.prog 89 #[stp a L pf fr, .int .u64 q] w fun e w' => e = .returned (.bool (begB L pf q)) ∧ ∃ x, w' = ext w x := by
  rcases hL with rfl | rfl | rfl
  all_goals
    go_enter Try.func89, Try.ntmps89
    go_wp2
    go_quiet (fail)
    go_wp2
    go_ret
    exact ⟨ret_bool (by rw [Bool.eq_iff_iff]; simp [begB]), up_to⟩

def hitsB (k a p asid : Int) (s : Bool) : Bool := mayB k a p && (k == 0 || (a == asid && (k == 1 || s)))

set_option maxHeartbeats 400000 in
theorem hits_one (k a p asid q : Int) (bl : Nat) (w : World) [hb : LtW bl w] (hq : w.cell? ⟨bl, 1, none⟩ = some (.int .u64 q)) :
    Calls Try.prog 88 #[tlbi k a p, .int .i64 asid, .func (.func 90) #[] #[.pointer (some ⟨bl, 0, none⟩)]] w fun e w' => e = .returned (.bool (hitsB k a p asid (decide (p = q)))) ∧ ∃ x, w' = ext w x := by
  go_enter Try.func88, Try.ntmps88
  go_wp2_with (first | (go_at_call 64; refine (may_any _ _ _ _).mono ?_; rintro e w' ⟨rfl, x, rfl⟩) | go_in)
  all_goals (go_ret; refine ⟨ret_bool ?_, up_to⟩; go_tidy; rw [Bool.eq_iff_iff]; simp_all [hitsB])

set_option maxHeartbeats 400000 in
theorem hits_two (k a p asid sa L pf fr : Int) (hL : L = 1 ∨ L = 2 ∨ L = 3) (hp0 : 0 ≤ p) (hp1 : p < 18446744073709551616) (w : World) :
    Calls Try.prog 88 #[tlbi k a p, .int .i64 asid, .func (.func 89) #[stp sa L pf fr] #[]] w fun e w' => e = .returned (.bool (hitsB k a p asid (begB L pf p))) ∧ ∃ x, w' = ext w x := by
  go_enter Try.func88, Try.ntmps88
  go_wp2_with (first | (go_at_call 64; refine (may_any _ _ _ _).mono ?_; rintro e w' ⟨rfl, x, rfl⟩) | (go_at_call 89; refine (begins_any _ _ _ _ _ hL hp0 hp1 _).mono ?_; rintro e w' ⟨rfl, x, rfl⟩))
  all_goals (go_ret; refine ⟨ret_bool ?_, up_to⟩; go_tidy; rw [Bool.eq_iff_iff]; simp_all [hitsB])

abbrev tlb (a p f : Int) (ro : Bool) : Value := .agg #[.int .i64 a, .int .u64 p, .int .i64 f, .bool ro]

set_option maxHeartbeats 400000 in
theorem Hits_any (k a p ea ep ef : Int) (ro : Bool) (w : World) :
    Calls Try.prog 78 #[tlbi k a p, tlb ea ep ef ro] w fun e w' => e = .returned (.bool (hitsB k a p ea (decide (p = ep)))) ∧ ∃ x, w' = ext w x := by
  go_enter Try.func78, Try.ntmps78
  go_wp2_with (go_at_call 88; refine (hits_one _ _ _ _ ep _ _ (by simp [go_sem])).mono ?_; rintro e w' ⟨rfl, x, rfl⟩)
  go_ret; exact ⟨rfl, up_to⟩

def hitsStepB (k a p sa L pf : Int) : Bool := if L < 1 ∨ 3 < L then mayB k a p && k == 0 else hitsB k a p sa (begB L pf p)

set_option maxHeartbeats 400000 in
theorem HitsStep_any (k a p sa L pf fr : Int) (hp0 : 0 ≤ p) (hp1 : p < 18446744073709551616) (w : World) :
    Calls Try.prog 68 #[tlbi k a p, stp sa L pf fr] w fun e w' => e = .returned (.bool (hitsStepB k a p sa L pf)) ∧ ∃ x, w' = ext w x := by
  by_cases h : L < 1 ∨ 3 < L
  · go_enter Try.func68, Try.ntmps68
    rcases h with h | h
    all_goals
      go_wp2_with (first | (go_at_call 64; refine (may_any _ _ _ _).mono ?_; rintro e w' ⟨rfl, x, rfl⟩))
    all_goals (go_ret; refine ⟨ret_bool ?_, up_to⟩; go_tidy; rw [Bool.eq_iff_iff]; simp_all [hitsStepB])
  · have hL : L = 1 ∨ L = 2 ∨ L = 3 := by omega
    have h1 : ¬ L < 1 := by omega
    have h3 : ¬ 3 < L := by omega
    have hr : hitsStepB k a p sa L pf = hitsB k a p sa (begB L pf p) := by simp [hitsStepB, h1, h3]
    rw [hr]; clear hr
    go_enter Try.func68, Try.ntmps68
    go_wp2_with (first | (go_at_call 88; refine (hits_two _ _ _ _ _ _ _ _ hL hp0 hp1 _).mono ?_; rintro e w' ⟨rfl, x, rfl⟩))
    go_ret; exact ⟨rfl, up_to⟩

end Go.Proofs.Ytpolilljglfkoaa
