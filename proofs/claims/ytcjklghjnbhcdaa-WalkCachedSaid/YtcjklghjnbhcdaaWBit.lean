/- One bit of a word. -/
import Derived.Test.YtcjklghjnbhcdaaFieldM
namespace Go.Proofs.Ytcjklghjnbhcdaa
open Go.RowKit
theorem bit_one (X k : Nat) (hX : X < 18446744073709551616) : bits .and .u64 ((X : Int) / 2 ^ k) 1 = if X.testBit k then 1 else 0 := by
  have e : ((X : Int) / 2 ^ k) = ((X / 2 ^ k : Nat) : Int) := by simp
  have h1 : X / 2 ^ k ≤ X := Nat.div_le_self _ _
  have e1 : (1 : Int) = ((1 : Nat) : Int) := rfl
  rw [e]
  conv => lhs; rw [e1]
  rw [bits_and_u64_nat _ _ (by omega) (by omega), Nat.and_one_is_mod]
  rw [Nat.testBit_eq_decide_div_mod_eq]
  have h2 : X / 2 ^ k % 2 = 0 ∨ X / 2 ^ k % 2 = 1 := by omega
  rcases h2 with h | h <;> simp [h]
end Go.Proofs.Ytcjklghjnbhcdaa
