/- page and Touch of package desc. -/
import Derived.Test.YtcjklghjnbhcdaaWDec
namespace Go.Proofs.Ytcjklghjnbhcdaa
open Go.RowKit

theorem even_or_one (q j : Nat) (h : q % 2 = 0) : (q + 1).testBit j = (q.testBit j || (1 : Nat).testBit j) := by
  cases j with
  | zero => simp; omega
  | succ j =>
    rw [Nat.testBit_succ, Nat.testBit_succ, Nat.testBit_succ]
    have : (q + 1) / 2 = q / 2 := by omega
    rw [this]; simp
theorem or_1024 (X : Nat) (hX : X < 18446744073709551616) (h : X.testBit 10 = false) : bits .or .u64 (X : Int) 1024 = (X : Int) + 1024 := by
  have e1 : (1024 : Int) = ((1024 : Nat) : Int) := rfl
  conv => lhs; rw [e1]
  rw [bits_or_u64_nat _ _ (by omega) (by omega)]
  have : X ||| 1024 = X + 1024 := by
    obtain ⟨q, hq⟩ : ∃ q, X / 1024 = q := ⟨_, rfl⟩
    obtain ⟨r, hr⟩ : ∃ r, X % 1024 = r := ⟨_, rfl⟩
    rw [bit_lit] at h
    simp at h
    have hr0 : r < 2 ^ 10 := by simp; omega
    have a1 : X = 2 ^ 10 * q + r := by simp; omega
    have a2 : X + 1024 = 2 ^ 10 * (q + 1) + r := by simp; omega
    have a3 : (1024 : Nat) = 2 ^ 10 * 1 + 0 := by simp
    rw [a2]
    conv => lhs; rw [a3, a1]
    apply Nat.eq_of_testBit_eq
    intro i
    rw [Nat.testBit_or, Nat.testBit_two_pow_mul_add _ hr0, Nat.testBit_two_pow_mul_add _ (by simp), Nat.testBit_two_pow_mul_add _ hr0]
    split
    · simp
    · rw [even_or_one q _ (by omega)]
  rw [this]; simp

set_option maxHeartbeats 1000000 in
theorem page_any (X : Nat) (hX : X < 18446744073709551616) (w : World) (d : D6) (hd : decD X 3 = d) (r : Bool) (hr : goodD X 3 = r) :
    Calls Try.prog 90 #[.int .u64 (X : Int)] w fun e w' => e = .returned (.tuple #[d.v, .bool r]) ∧ ∃ x, w' = ext w x := by
  have hcase : ∃ c, decE X 3 = c ∧ ((c = 0 ∧ r = true ∧ d.kind = 2) ∨ (c = 0 ∧ r = false ∧ d = d0) ∨ (c = 30 ∧ r = false ∧ d = d0)) := by
    refine ⟨_, rfl, ?_⟩
    subst hd hr
    cases hg : goodD X 3
    · have hd : decD X 3 = d0 := by rw [decD, hg]; rfl
      rw [hd]
      unfold decE
      rw [if_neg (by omega)]
      split
      · exact .inr (.inl ⟨rfl, rfl, rfl⟩)
      · rename_i h
        have : okD X (pgOf 3) = false := by
          cases ho : okD X (pgOf 3)
          · rfl
          · rw [goodD, ho, decide_eq_true (by omega)] at hg; cases hg
        rw [this]
        exact .inr (.inr ⟨rfl, rfl, rfl⟩)
    · refine .inl ⟨?_, rfl, by rw [decD, hg]; rfl⟩
      have h2 := hg
      simp only [goodD, Bool.and_eq_true, decide_eq_true_eq] at h2
      rw [decE, if_neg (by omega), if_neg (by omega), h2.2]; rfl
  obtain ⟨c, hc, hcase⟩ := hcase
  have HC := Lib.hid hc; have HD := Lib.hid hd; have HX := Lib.hid hX
  clear hc hd hX hr
  rcases hcase with ⟨rfl, rfl, hk⟩ | ⟨rfl, rfl, rfl⟩ | ⟨rfl, rfl, rfl⟩
  · obtain ⟨k, f, a, b, u, g⟩ := d
    simp only at hk
    subst hk
    go_enter Try.func90, Try.ntmps90
    go_wp2_with (go_at_call 43; with_reducible refine (decode_any X HX.out 3 _ _ HD.out 0 HC.out).mono ?_; rintro e w' ⟨rfl, x, rfl⟩)
    have hU : Up w.heap.size w (ext (w.alloc (.cells #[.int .i8 0, .int .i64 0, .bool false, .bool false, .bool false, .bool false] 101)) x) := ((Up.refl w).alloc _).ext x
    have a0 : (ext (w.alloc (.cells #[.int .i8 0, .int .i64 0, .bool false, .bool false, .bool false, .bool false] 101)) x).cell? ⟨w.heap.size, 0, none⟩ = some (.int .i8 0) := by simp [go_sem]
    have a1 : (ext (w.alloc (.cells #[.int .i8 0, .int .i64 0, .bool false, .bool false, .bool false, .bool false] 101)) x).cell? ⟨w.heap.size, 1, none⟩ = some (.int .i64 0) := by simp [go_sem]
    have a2 : (ext (w.alloc (.cells #[.int .i8 0, .int .i64 0, .bool false, .bool false, .bool false, .bool false] 101)) x).cell? ⟨w.heap.size, 2, none⟩ = some (.bool false) := by simp [go_sem]
    have a3 : (ext (w.alloc (.cells #[.int .i8 0, .int .i64 0, .bool false, .bool false, .bool false, .bool false] 101)) x).cell? ⟨w.heap.size, 3, none⟩ = some (.bool false) := by simp [go_sem]
    have a4 : (ext (w.alloc (.cells #[.int .i8 0, .int .i64 0, .bool false, .bool false, .bool false, .bool false] 101)) x).cell? ⟨w.heap.size, 4, none⟩ = some (.bool false) := by simp [go_sem]
    have a5 : (ext (w.alloc (.cells #[.int .i8 0, .int .i64 0, .bool false, .bool false, .bool false, .bool false] 101)) x).cell? ⟨w.heap.size, 5, none⟩ = some (.bool false) := by simp [go_sem]
    have fa : ∀ i, (ext (w.alloc (.cells #[.int .i8 0, .int .i64 0, .bool false, .bool false, .bool false, .bool false] 101)) x).frozen? ⟨w.heap.size, i, none⟩ = false := fun i => by simp [go_sem]
    haveI j : LtW w.heap.size (ext (w.alloc (.cells #[.int .i8 0, .int .i64 0, .bool false, .bool false, .bool false, .bool false] 101)) x) := inferInstance
    generalize ext (w.alloc (.cells #[.int .i8 0, .int .i64 0, .bool false, .bool false, .bool false, .bool false] 101)) x = W1 at hU a0 a1 a2 a3 a4 a5 fa j ⊢
    have HU := Lib.hid hU; clear hU
    go_region
    all_goals
      go_wp2
      exact bodyPost_ret (v := .tuple #[(⟨2, f, a, b, u, g⟩ : D6).v, .bool true]) (by simp [results, Try.results90, go_sem, a0, a1, a2, a3, a4, a5]) rfl ⟨rfl, up_to (h := by (repeat (first | with_reducible exact HU.out | with_reducible apply Up.drew | with_reducible apply Up.alloc | with_reducible apply Up.ext | with_reducible refine Up.setCell _ _ _ (Nat.le_refl _) ?_)))⟩
  · go_enter Try.func90, Try.ntmps90
    go_wp2_with (go_at_call 43; with_reducible refine (decode_any X HX.out 3 _ _ HD.out 0 HC.out).mono ?_; rintro e w' ⟨rfl, x, rfl⟩)
    have hU : Up w.heap.size w (ext (w.alloc (.cells #[.int .i8 0, .int .i64 0, .bool false, .bool false, .bool false, .bool false] 101)) x) := ((Up.refl w).alloc _).ext x
    have a0 : (ext (w.alloc (.cells #[.int .i8 0, .int .i64 0, .bool false, .bool false, .bool false, .bool false] 101)) x).cell? ⟨w.heap.size, 0, none⟩ = some (.int .i8 0) := by simp [go_sem]
    have a1 : (ext (w.alloc (.cells #[.int .i8 0, .int .i64 0, .bool false, .bool false, .bool false, .bool false] 101)) x).cell? ⟨w.heap.size, 1, none⟩ = some (.int .i64 0) := by simp [go_sem]
    have a2 : (ext (w.alloc (.cells #[.int .i8 0, .int .i64 0, .bool false, .bool false, .bool false, .bool false] 101)) x).cell? ⟨w.heap.size, 2, none⟩ = some (.bool false) := by simp [go_sem]
    have a3 : (ext (w.alloc (.cells #[.int .i8 0, .int .i64 0, .bool false, .bool false, .bool false, .bool false] 101)) x).cell? ⟨w.heap.size, 3, none⟩ = some (.bool false) := by simp [go_sem]
    have a4 : (ext (w.alloc (.cells #[.int .i8 0, .int .i64 0, .bool false, .bool false, .bool false, .bool false] 101)) x).cell? ⟨w.heap.size, 4, none⟩ = some (.bool false) := by simp [go_sem]
    have a5 : (ext (w.alloc (.cells #[.int .i8 0, .int .i64 0, .bool false, .bool false, .bool false, .bool false] 101)) x).cell? ⟨w.heap.size, 5, none⟩ = some (.bool false) := by simp [go_sem]
    have fa : ∀ i, (ext (w.alloc (.cells #[.int .i8 0, .int .i64 0, .bool false, .bool false, .bool false, .bool false] 101)) x).frozen? ⟨w.heap.size, i, none⟩ = false := fun i => by simp [go_sem]
    haveI j : LtW w.heap.size (ext (w.alloc (.cells #[.int .i8 0, .int .i64 0, .bool false, .bool false, .bool false, .bool false] 101)) x) := inferInstance
    generalize ext (w.alloc (.cells #[.int .i8 0, .int .i64 0, .bool false, .bool false, .bool false, .bool false] 101)) x = W1 at hU a0 a1 a2 a3 a4 a5 fa j ⊢
    have HU := Lib.hid hU; clear hU
    go_region
    all_goals
      go_wp2
      exact bodyPost_ret (v := .tuple #[d0.v, .bool false]) (by simp [results, Try.results90, go_sem, a0, a1, a2, a3, a4, a5]) rfl ⟨rfl, up_to (h := by (repeat (first | with_reducible exact HU.out | with_reducible apply Up.drew | with_reducible apply Up.alloc | with_reducible apply Up.ext | with_reducible refine Up.setCell _ _ _ (Nat.le_refl _) ?_)))⟩
  · go_enter Try.func90, Try.ntmps90
    go_wp2_with (go_at_call 43; with_reducible refine (decode_any X HX.out 3 _ _ HD.out 30 HC.out).mono ?_; rintro e w' ⟨rfl, x, rfl⟩)
    have hU : Up w.heap.size w (ext (w.alloc (.cells #[.int .i8 0, .int .i64 0, .bool false, .bool false, .bool false, .bool false] 101)) x) := ((Up.refl w).alloc _).ext x
    have a0 : (ext (w.alloc (.cells #[.int .i8 0, .int .i64 0, .bool false, .bool false, .bool false, .bool false] 101)) x).cell? ⟨w.heap.size, 0, none⟩ = some (.int .i8 0) := by simp [go_sem]
    have a1 : (ext (w.alloc (.cells #[.int .i8 0, .int .i64 0, .bool false, .bool false, .bool false, .bool false] 101)) x).cell? ⟨w.heap.size, 1, none⟩ = some (.int .i64 0) := by simp [go_sem]
    have a2 : (ext (w.alloc (.cells #[.int .i8 0, .int .i64 0, .bool false, .bool false, .bool false, .bool false] 101)) x).cell? ⟨w.heap.size, 2, none⟩ = some (.bool false) := by simp [go_sem]
    have a3 : (ext (w.alloc (.cells #[.int .i8 0, .int .i64 0, .bool false, .bool false, .bool false, .bool false] 101)) x).cell? ⟨w.heap.size, 3, none⟩ = some (.bool false) := by simp [go_sem]
    have a4 : (ext (w.alloc (.cells #[.int .i8 0, .int .i64 0, .bool false, .bool false, .bool false, .bool false] 101)) x).cell? ⟨w.heap.size, 4, none⟩ = some (.bool false) := by simp [go_sem]
    have a5 : (ext (w.alloc (.cells #[.int .i8 0, .int .i64 0, .bool false, .bool false, .bool false, .bool false] 101)) x).cell? ⟨w.heap.size, 5, none⟩ = some (.bool false) := by simp [go_sem]
    have fa : ∀ i, (ext (w.alloc (.cells #[.int .i8 0, .int .i64 0, .bool false, .bool false, .bool false, .bool false] 101)) x).frozen? ⟨w.heap.size, i, none⟩ = false := fun i => by simp [go_sem]
    haveI j : LtW w.heap.size (ext (w.alloc (.cells #[.int .i8 0, .int .i64 0, .bool false, .bool false, .bool false, .bool false] 101)) x) := inferInstance
    generalize ext (w.alloc (.cells #[.int .i8 0, .int .i64 0, .bool false, .bool false, .bool false, .bool false] 101)) x = W1 at hU a0 a1 a2 a3 a4 a5 fa j ⊢
    have HU := Lib.hid hU; clear hU
    go_region
    all_goals
      go_wp2
      exact bodyPost_ret (v := .tuple #[d0.v, .bool false]) (by simp [results, Try.results90, go_sem, a0, a1, a2, a3, a4, a5]) rfl ⟨rfl, up_to (h := by (repeat (first | with_reducible exact HU.out | with_reducible apply Up.drew | with_reducible apply Up.alloc | with_reducible apply Up.ext | with_reducible refine Up.setCell _ _ _ (Nat.le_refl _) ?_)))⟩

theorem goodD_af (X : Nat) (h : goodD X 3 = true) : (decD X 3).af = X.testBit 10 := by rw [decD, h]; rfl

set_option maxHeartbeats 1000000 in
theorem touch_any (X : Nat) (hX : X < 18446744073709551616) (w : World) (v : Int) (hv : touchV X = v) (b : Bool) (hb : touchB X = b) :
    Calls Try.prog 72 #[.int .u64 (X : Int)] w fun e w' => e = .returned (.tuple #[.int .u64 v, .bool b]) ∧ ∃ x, w' = ext w x := by
  subst hv hb
  obtain ⟨d, hd⟩ : ∃ d, decD X 3 = d := ⟨_, rfl⟩
  have HD := Lib.hid hd; have HX := Lib.hid hX
  cases hg : goodD X 3
  · have e1 : touchB X = false := by rw [touchB, hg]; rfl
    have e2 : touchV X = X := by rw [touchV, e1]; rfl
    rw [e1, e2]
    have HG := Lib.hid hg
    clear hg hd hX e1 e2
    go_enter Try.func72, Try.ntmps72
    go_wp2_with (go_at_call 90; with_reducible refine (page_any X HX.out _ d HD.out false HG.out).mono ?_; rintro e w' ⟨rfl, x, rfl⟩)
    go_ret2
    exact ⟨rfl, up_to⟩
  · have haf := goodD_af X hg
    rw [hd] at haf
    have HG := Lib.hid hg
    obtain ⟨k, f, a, q, u, g⟩ := d
    simp only at haf
    cases hb : X.testBit 10
    · have e1 : touchB X = true := by rw [touchB, hg, hb]; rfl
      have e2 : touchV X = (X : Int) + 1024 := by rw [touchV, e1]; rfl
      have ho := or_1024 X hX hb
      rw [e1, e2]
      rw [hb] at haf
      subst haf
      clear hg hd hX e1 e2 hb
      go_enter Try.func72, Try.ntmps72
      go_wp2_with (go_at_call 90; with_reducible refine (page_any X HX.out _ _ HD.out true HG.out).mono ?_; rintro e w' ⟨rfl, x, rfl⟩)
      go_ret2
      exact ⟨rfl, up_to⟩
    · have e1 : touchB X = false := by rw [touchB, hg, hb]; rfl
      have e2 : touchV X = X := by rw [touchV, e1]; rfl
      rw [e1, e2]
      rw [hb] at haf
      subst haf
      clear hg hd hX e1 e2 hb
      go_enter Try.func72, Try.ntmps72
      go_wp2_with (go_at_call 90; with_reducible refine (page_any X HX.out _ _ HD.out true HG.out).mono ?_; rintro e w' ⟨rfl, x, rfl⟩)
      go_ret2
      exact ⟨rfl, up_to⟩
end Go.Proofs.Ytcjklghjnbhcdaa
