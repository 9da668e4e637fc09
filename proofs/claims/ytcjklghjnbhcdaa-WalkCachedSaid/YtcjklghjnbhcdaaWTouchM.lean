/- What a walk's step comes to, in four cases; walked again behind a touch. -/
import Derived.Test.YtcjklghjnbhcdaaWEq20
import Derived.Test.YtcjklghjnbhcdaaWTouch
import Derived.Test.YtcjklghjnbhcdaaWWord
namespace Go.Proofs.Ytcjklghjnbhcdaa
open Go.RowKit

theorem touch_again {X : Nat} (h : touchB X = true) : goodD X 3 = true ∧ X.testBit 10 = false ∧ X < 262144 ∧ goodD (X + 1024) 3 = true ∧ touchB (X + 1024) = false ∧ (X + 1024) / 4096 % 64 = X / 4096 % 64 ∧ (X + 1024).testBit 7 = X.testBit 7 ∧ (X + 1024).testBit 6 = X.testBit 6 := by
  simp only [touchB, Bool.and_eq_true, Bool.not_eq_true'] at h
  obtain ⟨h1, h2⟩ := h
  have h1' := h1
  simp only [goodD, pgOf, okD, Bool.and_eq_true, decide_eq_true_eq] at h1'
  obtain ⟨⟨_, _, h3⟩, h4⟩ := h1'
  simp at h4
  have h5 : X / 1024 % 2 = 0 := by
    rw [bit_lit, decide_eq_false_iff_not] at h2
    simp at h2
    omega
  have hg : goodD (X + 1024) 3 = true := by
    simp only [goodD, pgOf, okD, Bool.and_eq_true, decide_eq_true_eq]
    refine ⟨⟨by decide, by decide, by omega⟩, ?_⟩
    simp
    omega
  refine ⟨h1, h2, by omega, hg, ?_, by omega, ?_, ?_⟩
  · simp only [touchB, hg, Bool.true_and, Bool.not_eq_false']
    rw [bit_lit, decide_eq_true_eq]
    simp
    omega
  · rw [bit_lit, bit_lit]
    have : (X + 1024) / 2 ^ 7 % 2 = X / 2 ^ 7 % 2 := by simp; omega
    rw [this]
  · rw [bit_lit, bit_lit]
    have : (X + 1024) / 2 ^ 6 % 2 = X / 2 ^ 6 % 2 := by simp; omega
    rw [this]

theorem nextC_case {a p l f : Int} {X : Nat} (h : chkW true a p l f = 0) :
    (∃ fr q, l ≤ 2 ∧ 0 ≤ fr ∧ fr < 64 ∧ nextC true a p l f X = on20 true a p (l + 1) fr q) ∨ nextC true a p l f X = miss20 p l ∨ (∃ fr ro, nextC true a p l f X = found20 a p fr ro false 0) ∨
    (∃ fr ro, nextC true a p l f X = found20 a p fr ro true ((X : Int) + 1024) ∧ X.testBit 10 = false ∧ X < 262144 ∧ nextC true a p l f (X + 1024) = found20 a p fr ro false 0) := by
  obtain ⟨_, l0, l3, _⟩ := chk_zero h
  rcases dec_cases X l l0 l3 with ⟨hd, _⟩ | ⟨hd, _⟩ | ⟨h2, _, hd⟩ | ⟨rfl, _, hd⟩
  · exact .inr (.inl (nextC_miss h hd))
  · exact .inr (.inl (nextC_miss h hd))
  · exact .inl ⟨_, _, h2, by omega, by omega, nextC_on h hd⟩
  · cases hu : X.testBit 6
    · rw [hu] at hd; exact .inr (.inl (nextC_no h hd))
    · rw [hu] at hd
      have hy := nextC_yes h hd
      cases ht : touchB X
      · rw [ht] at hy; exact .inr (.inr (.inl ⟨_, _, hy⟩))
      · rw [ht] at hy
        obtain ⟨_, t2, t3, t4, t5, t6, t7, t8⟩ := touch_again ht
        refine .inr (.inr (.inr ⟨_, _, hy, t2, t3, ?_⟩))
        have hd2 : decD (X + 1024) 3 = ⟨2, ((X / 4096 % 64 : Nat) : Int), (X + 1024).testBit 10, X.testBit 7, true, (X + 1024).testBit 11⟩ := by
          unfold decD; rw [t4, if_pos rfl, if_pos rfl, t6, t7, t8, hu]
        have hy2 := nextC_yes h hd2
        rw [t5] at hy2
        exact hy2
end Go.Proofs.Ytcjklghjnbhcdaa
