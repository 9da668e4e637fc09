/- The bits of a word, one by one: what field.Each tells any loop body. -/
import Derived.RangeFuncNested
import Derived.RangeFuncBound
import Derived.RangeFuncCalls
import Derived.RangeFuncLeaves
import Derived.Shelf.Abstract
import Derived.Shelf.RegionOpen
import Derived.OwnWalkIn
import Derived.TacticsInMore
import Derived.LoopNIn
import Derived.LoopIn
import Derived.Lib.Hide
import Derived.Test.YtoibeflmldiehaaExt
import Derived.Test.YtoibeflmldiehaaFieldM
namespace Go.Proofs.Ytoibeflmldiehaa
open Go.RowKit Go.Shelf
attribute [local go_sem] Oper.semAt_some

def bitsUp (X k : Nat) : List Nat := (List.range k).filter fun j => X.testBit j
theorem bitsUp_succ (X k : Nat) : bitsUp X (k + 1) = if X.testBit k then bitsUp X k ++ [k] else bitsUp X k := by
  unfold bitsUp
  rw [List.range_succ, List.filter_append]
  by_cases h : X.testBit k <;> simp [h]
theorem bitsUp_le (X k : Nat) : (bitsUp X k).length ≤ k := by
  unfold bitsUp; have := List.length_filter_le (fun j => X.testBit j) (List.range k); simpa using this
theorem bitsUp_pre (X k m : Nat) (h : k ≤ m) : bitsUp X k <+: bitsUp X m := by
  induction m with
  | zero => obtain rfl : k = 0 := by omega
            exact List.prefix_refl _
  | succ m ih =>
    by_cases hk : k = m + 1
    · subst hk; exact List.prefix_refl _
    · refine (ih (by omega)).trans ?_
      rw [bitsUp_succ]; split
      · exact List.prefix_append _ _
      · exact List.prefix_refl _

theorem bit_one (X k : Nat) (hX : X < 18446744073709551616) : bits .and .u64 ((X : Int) / 2 ^ k) 1 = if X.testBit k then 1 else 0 := by
  have e : ((X : Int) / 2 ^ k) = ((X / 2 ^ k : Nat) : Int) := by simp
  have h1 : X / 2 ^ k ≤ X := Nat.div_le_self _ _
  have e1 : (1 : Int) = ((1 : Nat) : Int) := rfl
  rw [e]
  conv => lhs; rw [e1]
  rw [bits_and_u64_nat _ _ (by omega) (by omega), Nat.and_one_is_mod]
  rw [Nat.testBit_eq_decide_div_mod_eq]
  have h2 : X / 2 ^ k % 2 = 0 ∨ X / 2 ^ k % 2 = 1 := by omega
  rcases h2 with h | h <;> simp [h]

set_option maxHeartbeats 1000000 in
theorem each1_stops (F : Fence) (n : Nat) (h6 : F.fn 60) (hro : F.round = none) (hn : 1 ≤ n) (Bn n₀ X : Nat) (hX : X < 18446744073709551616) (w : World) (hBw : Bn < w.heap.size) (hB0 : Bn < n₀) (hBn : w.cell? ⟨Bn, 0, none⟩ = some (.int .u64 X)) :
    SeqStopsK F n Try.prog 60 #[.pointer (some ⟨Bn, 0, none⟩)] (fun k : Nat => #[Value.int .i64 k]) (Below n₀) (fun xs => xs = bitsUp X 64) (fun p => p <+: bitsUp X 64) 64 w := fun l J Jx W hW hJ hJx hY h0 => by
  refine callsIn_of_wp Try.func60 rfl h6 ?_ hro
  simp only [Try.ntmps60, List.size_toArray, List.length_cons, List.length_nil, Nat.reduceAdd, Nat.reduceSub, Array.replicate_succ, Array.replicate_zero, List.push_toArray, List.append_toArray, List.nil_append, List.cons_append]
  have hBnW : W.cell? ⟨Bn, 0, none⟩ = some (.int .u64 X) := (hW.cell (p := ⟨Bn, 0, none⟩) hBw).trans hBn
  gi_wp2
  gi_loopw [4] (fun p wr => ∃ k : Nat, k ≤ 64 ∧ p = .int .i64 k ∧ J (bitsUp X k) wr ∧ wr.cell? ⟨Bn, 0, none⟩ = some (.int .u64 X))
    (fun p _ => 64 - (intOf p).toNat)
  case atStart => exact ⟨0, by omega, rfl, h0, hBnW⟩
  case round =>
    obtain ⟨k, hk, rfl, hJs, hc⟩ := hrel
    by_cases hlt : k < 64
    · have hb := bit_one X k hX
      have hs := bitsUp_succ X k
      have hle := bitsUp_le X k
      have hp := bitsUp_pre X (k + 1) 64 (by omega)
      by_cases ht : X.testBit k = true
      · rw [if_pos ht] at hb hs
        have Hs := Lib.hid hs; clear hs
        obtain ⟨fn, tmps, assign, body, hy, hR⟩ := hY (bitsUp X k) k wr hJs (by omega)
        gi_wp2
        refine hR.mono ?_
        rintro e W3 (⟨rfl, hJ3, hk3⟩ | ⟨rfl, hJx3⟩)
        · have hc3 : W3.cell? ⟨Bn, 0, none⟩ = some (.int .u64 X) := (hk3.cell (p := ⟨Bn, 0, none⟩) hB0).trans hc
          gi_wp2
          go_roundw
          case rel => exact ⟨k + 1, by omega, by go_num, by rw [Hs.out]; exact hJ3, hc3⟩
          case measure => simp [intOf]; omega
        · gi_wp2
          refine bodyPost_ret (results_none rfl _ _ _) rfl ?_
          exact ⟨⟨_, rfl⟩, .inr ⟨_, by rw [Hs.out] at hp; exact hp, hJx3⟩⟩
      · rw [if_neg ht] at hb hs
        have Hs := Lib.hid hs; clear hs
        gi_wp2
        refine ⟨fun _ h => (by cases h), ?_⟩
        gi_wp2
        go_roundw
        case rel => exact ⟨k + 1, by omega, by go_num, by rw [Hs.out]; exact hJs, hc⟩
        case measure => simp [intOf]; omega
    · obtain rfl : k = 64 := by omega
      gi_wp2
      go_end0
      exact ⟨⟨_, rfl⟩, .inl ⟨_, rfl, hJs⟩⟩
end Go.Proofs.Ytoibeflmldiehaa
