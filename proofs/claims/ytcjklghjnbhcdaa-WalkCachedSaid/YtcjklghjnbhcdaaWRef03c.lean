/- What the document's Touch tells. -/
import Derived.Test.YtcjklghjnbhcdaaWRef03b
namespace Go.Proofs.Ytcjklghjnbhcdaa
open Go.RowKit

theorem dec3_case (X : Nat) : (decE X 3 = 0 ∧ goodD X 3 = true ∧ (decD X 3).kind = 2 ∧ (decD X 3).af = X.testBit 10 ∧ X < 262144) ∨ (decE X 3 = 0 ∧ goodD X 3 = false ∧ decD X 3 = d0) ∨ (decE X 3 = 30 ∧ goodD X 3 = false ∧ decD X 3 = d0) := by
  cases hg : goodD X 3
  · have hd : decD X 3 = d0 := by rw [decD, hg]; rfl
    rw [hd]
    unfold decE
    rw [if_neg (by omega)]
    split
    · exact .inr (.inl ⟨rfl, rfl, rfl⟩)
    · rename_i h
      have : okD X (pgOf 3) = false := by
        cases ho : okD X (pgOf 3)
        · rfl
        · rw [goodD, ho, decide_eq_true (by omega)] at hg; cases hg
      rw [this]
      exact .inr (.inr ⟨rfl, rfl, rfl⟩)
  · refine .inl ⟨?_, rfl, by rw [decD, hg]; rfl, goodD_af X hg, ?_⟩
    · have h2 := hg
      simp only [goodD, Bool.and_eq_true, decide_eq_true_eq] at h2
      rw [decE, if_neg (by omega), if_neg (by omega), h2.2]; rfl
    · have h2 := hg
      simp only [goodD, Bool.and_eq_true, decide_eq_true_eq] at h2
      have h3 := h2.2
      simp only [okD, decide_eq_true_eq, pgOf, decide_true, if_true] at h3
      omega

set_option maxRecDepth 20000 in
set_option maxHeartbeats 2000000 in
theorem rtouch_any (X : Nat) (hX : X < 18446744073709551616) (w : World) (v : Int) (hv : touchV X = v) (b : Bool) (hb : touchB X = b) :
    Calls Try.prog 46 #[.int .u64 (X : Int)] w fun e w' => e = .returned (.tuple #[.int .u64 v, .bool b]) ∧ ∃ x, w' = ext w x := by
  subst hv hb
  obtain ⟨d, hd⟩ : ∃ d, decD X 3 = d := ⟨_, rfl⟩
  have hcase := dec3_case X
  rw [hd] at hcase
  have HD := Lib.hid hd; have HX := Lib.hid hX
  rcases hcase with ⟨hc, hg, hk, haf, hlt⟩ | ⟨hc, hg, rfl⟩ | ⟨hc, hg, rfl⟩
  · obtain ⟨k, f, a, q, u, g⟩ := d
    simp only at haf hk
    subst hk
    have hlz : (X : Int) < 262144 := by omega
    have HC := Lib.hid hc
    cases hb : X.testBit 10
    · have e1 : touchB X = true := by rw [touchB, hg, hb]; rfl
      have e2 : touchV X = (X : Int) + 1024 := by rw [touchV, e1]; rfl
      rw [e1, e2]
      rw [hb] at haf
      subst haf
      clear hg hd hX e1 e2 hb hc hlt
      go_enter Try.func46, Try.ntmps46
      go_wp2_with (go_at_call 44; with_reducible refine (rdecode_any X HX.out 3 _ _ HD.out 0 HC.out).mono ?_; rintro e w' ⟨rfl, x, rfl⟩)
      go_ret2
      exact ⟨rfl, up_to⟩
    · have e1 : touchB X = false := by rw [touchB, hg, hb]; rfl
      have e2 : touchV X = X := by rw [touchV, e1]; rfl
      rw [e1, e2]
      rw [hb] at haf
      subst haf
      clear hg hd hX e1 e2 hb hc hlt
      go_enter Try.func46, Try.ntmps46
      go_wp2_with (go_at_call 44; with_reducible refine (rdecode_any X HX.out 3 _ _ HD.out 0 HC.out).mono ?_; rintro e w' ⟨rfl, x, rfl⟩)
      go_ret2
      exact ⟨rfl, up_to⟩
  all_goals
    have e1 : touchB X = false := by rw [touchB, hg]; rfl
    have e2 : touchV X = X := by rw [touchV, e1]; rfl
    rw [e1, e2]
    have HC := Lib.hid hc
    clear hg hd hX e1 e2 hc
    go_enter Try.func46, Try.ntmps46
    go_wp2_with (go_at_call 44; with_reducible refine (rdecode_any X HX.out 3 _ _ HD.out _ HC.out).mono ?_; rintro e w' ⟨rfl, x, rfl⟩)
    go_ret2
    exact ⟨rfl, up_to⟩
end Go.Proofs.Ytcjklghjnbhcdaa
