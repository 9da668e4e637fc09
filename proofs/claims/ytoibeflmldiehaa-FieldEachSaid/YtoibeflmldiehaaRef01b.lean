/- The reference's Sign and Each. -/
import Derived.Test.YtoibeflmldiehaaRef01
namespace Go.Proofs.Ytoibeflmldiehaa
open Go.RowKit

theorem mod_succ (X k : Nat) : X % 2 ^ (k + 1) = X % 2 ^ k + X / 2 ^ k % 2 * 2 ^ k := by
  rw [Nat.pow_succ, Nat.mod_mul, Nat.mul_comm (2 ^ k) (X / 2 ^ k % 2)]

theorem pow_le63 (k : Nat) (h : k ≤ 63) : 2 ^ k ≤ 9223372036854775808 := by
  have h1 : (2 : Nat) ^ k ≤ 2 ^ 63 := Nat.pow_le_pow_right (by decide) h
  have h2 : (2 : Nat) ^ 63 = 9223372036854775808 := by decide
  omega

theorem step_sign (X j : Nat) (hj : j < 63) : wrap64 (((X % 2 ^ j : Nat) : Int) + wrap64 (wrap64 (bitV X j) * 2 ^ j)) = ((X % 2 ^ (j + 1) : Nat) : Int) := by
  have e : bitV X j = ((X / 2 ^ j % 2 : Nat) : Int) := by rw [bitV, Int.toNat_natCast]; simp
  have h1 : 2 ^ (j + 1) ≤ 9223372036854775808 := pow_le63 _ (by omega)
  have h2 : X % 2 ^ j < 2 ^ j := Nat.mod_lt _ (pow_pos j)
  have e2 : ((2 : Int) ^ j) = ((2 ^ j : Nat) : Int) := by simp
  rw [mod_succ X j, e, e2]
  rw [Nat.pow_succ] at h1
  have h3 : X / 2 ^ j % 2 = 0 ∨ X / 2 ^ j % 2 = 1 := by omega
  rcases h3 with h3 | h3 <;> rw [h3] <;> unfold wrap64 <;> omega

theorem sign_yes (X j : Nat) (hj : j ≤ 63) (h : X.testBit j = true) : wrap64 (((X % 2 ^ j : Nat) : Int) - wrap64 (2 ^ j)) = signV X j := by
  have h1 : 2 ^ j ≤ 9223372036854775808 := pow_le63 _ hj
  have h2 : X % 2 ^ j < 2 ^ j := Nat.mod_lt _ (pow_pos j)
  have h3 : X / 2 ^ j % 2 = 1 := by rw [Nat.testBit_eq_decide_div_mod_eq] at h; simpa using h
  have e2 : ((2 : Int) ^ j) = ((2 ^ j : Nat) : Int) := by simp
  have e3 : ((j : Int) + 1).toNat = j + 1 := by omega
  have e4 : ((2 : Int) ^ (j + 1)) = ((2 ^ (j + 1) : Nat) : Int) := by simp
  have em := mod_succ X j
  rw [h3, Nat.one_mul] at em
  rw [signV, Int.toNat_natCast, e3, e2, e4, ← Int.natCast_emod, em, if_pos (by omega), Nat.pow_succ]
  unfold wrap64
  omega

theorem sign_no (X j : Nat) (h : ¬ X.testBit j = true) : ((X % 2 ^ j : Nat) : Int) = signV X j := by
  have h2 : X % 2 ^ j < 2 ^ j := Nat.mod_lt _ (pow_pos j)
  have h3 : X / 2 ^ j % 2 = 0 := by rw [Nat.testBit_eq_decide_div_mod_eq] at h; simp at h; omega
  have e2 : ((2 : Int) ^ j) = ((2 ^ j : Nat) : Int) := by simp
  have e3 : ((j : Int) + 1).toNat = j + 1 := by omega
  have e4 : ((2 : Int) ^ (j + 1)) = ((2 ^ (j + 1) : Nat) : Int) := by simp
  have em := mod_succ X j
  simp only [h3, Nat.zero_mul, Nat.add_zero] at em
  rw [signV, Int.toNat_natCast, e3, e2, e4, ← Int.natCast_emod, em, if_neg (by omega)]

set_option maxHeartbeats 1000000 in
theorem refSign_any (x hi : Int) (x0 : 0 ≤ x) (x1 : x < 18446744073709551616) (w : World) :
    Calls Try.prog 39 #[.int .u64 x, .int .i64 hi] w fun e w' => e = .returned (.int .i64 (signOr x hi)) ∧ ∃ x, w' = ext w x := by
  by_cases h : 0 ≤ hi ∧ hi ≤ 63
  · rw [signOr, if_pos h]
    obtain ⟨h0, h1⟩ := h
    obtain ⟨H, rfl⟩ := Int.eq_ofNat_of_zero_le h0
    obtain ⟨X, rfl⟩ := Int.eq_ofNat_of_zero_le x0
    have d0 : decide ((H : Int) < 0) = false := by simp
    have d1 : decide ((63 : Int) < H) = false := by simp; omega
    go_enter Try.func39, Try.ntmps39
    go_wp2_with fail
    go_loopw [5, 6] (fun v k wr => ∃ (j : Nat) (V : Int), j ≤ H ∧ k = .int .i64 (j : Int) ∧ v = .int .i64 V ∧ Hid (V = ((X % 2 ^ j : Nat) : Int)) ∧ ∃ y, wr = ext w y) (fun _ k _ => (64 - intOf k).toNat)
    case atStart => exact ⟨0, 0, by omega, by simp, rfl, by unfold Hid; simp [Nat.mod_one], up_to⟩
    case round =>
      obtain ⟨j, V, hj, rfl, rfl, hV, y, rfl⟩ := hrel
      by_cases hjn : j = H
      · subst hjn
        have hb := bitV_eq X j
        by_cases ht : X.testBit j = true
        · rw [if_pos ht] at hb
          have Ht := Lib.hid ht; clear ht
          go_wp2_with (go_at_call 59; ((with_reducible refine (bit_any (X : Int) (j : Int) x0 x1 (by omega) (by omega) _).mono ?_); rintro e w' ⟨rfl, x, rfl⟩))
          go_ret; exact ⟨ret_int (by rw [hV.out]; exact sign_yes X j (by omega) Ht.out), up_to⟩
        · rw [if_neg ht] at hb
          have Ht := Lib.hid ht; clear ht
          go_wp2_with (go_at_call 59; ((with_reducible refine (bit_any (X : Int) (j : Int) x0 x1 (by omega) (by omega) _).mono ?_); rintro e w' ⟨rfl, x, rfl⟩))
          go_ret; exact ⟨ret_int (by rw [hV.out]; exact sign_no X j Ht.out), up_to⟩
      · have hlt : j < H := by omega
        clear hjn
        go_wp2_with (go_at_call 59; ((with_reducible refine (bit_any (X : Int) (j : Int) x0 x1 (by omega) (by omega) _).mono ?_); rintro e w' ⟨rfl, x, rfl⟩))
        go_roundw
        case rel => exact ⟨j + 1, _, by omega, by go_num, rfl, by unfold Hid; rw [hV.out]; exact step_sign X j (by omega), up_to⟩
        case measure => simp [intOf]; omega
  · rw [signOr, if_neg h]
    rcases (by omega : hi < 0 ∨ (0 ≤ hi ∧ 63 < hi)) with h1 | ⟨h1, h2⟩
    all_goals
      clear h
      go_enter Try.func39, Try.ntmps39
      go_wp2_with fail
      go_ret; exact ⟨rfl, up_to⟩

theorem info_int : (Try.prog.info? 3).map (fun i => (i.zero, i.size, i.bytes)) = some (some (.int .i64 0), 1, 8) := by kernel_rfl

def ints (l : List Nat) : List Value := l.map fun (k : Nat) => Value.int .i64 (k : Int)

set_option maxHeartbeats 1000000 in
theorem refEach_any (X : Nat) (hX : X < 18446744073709551616) (w : World) :
    Calls Try.prog 27 #[.int .u64 X] w fun e w' => ∃ v, e = .returned v ∧ w'.ownsRow w.heap.size 3 1 v (bitsUp X 64).length (ints (bitsUp X 64)) ∧ Below w.heap.size w w' := by
  have x0 : (0 : Int) ≤ X := by omega
  have x1 : (X : Int) < 18446744073709551616 := by omega
  have HX := Lib.hid hX
  clear hX
  obtain ⟨i0, hi, hz0, hz1, hz2⟩ := info_parts info_int
  go_enter Try.func27, Try.ntmps27
  go_wp2_with fail
  go_loopw [3, 4] (fun v k wr => ∃ j : Nat, j ≤ 64 ∧ k = .int .i64 (j : Int) ∧ wr.ownsRow w.heap.size 3 1 v (bitsUp X j).length (ints (bitsUp X j)) ∧ Below w.heap.size w wr) (fun _ k _ => (64 - intOf k).toNat)
  case atStart => exact ⟨0, by omega, rfl, ⟨by simp [ints], .inl ⟨rfl, by simp [bitsUp]⟩⟩, Below.refl _ _⟩
  case round =>
    rename_i v _ _
    obtain ⟨j, hj, rfl, hown, hB⟩ := hrel
    by_cases hj64 : j = 64
    · subst hj64
      have HO := Lib.hid hown; clear hown
      go_wp2_with fail
      go_ret
      exact ⟨_, rfl, HO.out, hB⟩
    · have hb := bitV_eq X j
      have hs := bitsUp_succ X j
      have hlen := bitsUp_le X j
      have hlt : (j : Int) ≤ 63 := by omega
      by_cases ht : X.testBit j = true
      · rw [if_pos ht] at hb hs
        have Ht := Lib.hid ht; clear ht
        have Hs := Lib.hid hs; clear hs
        have HO := Lib.hid hown; clear hown
        go_wp2_with (first
          | (go_at_call 59; ((with_reducible refine (bit_any (X : Int) (j : Int) x0 x1 (by omega) (by omega) _).mono ?_); rintro e w' ⟨rfl, x, rfl⟩))
          | (at_builtin; refine wpList_append_own _ rfl _ _ 47 rfl w.heap.size 3 i0 (.int .i64 0) 1 8 Try.underlying47 hi hz0 hz1 hz2 rfl (by decide) _ _ _ rfl ((ownsRow_ext _ HO.out).alloc _) ⟨(ext _ _).heap.size, 0, none⟩ 1 1 [.int .i64 (j : Int)] rfl rfl (cell_one_new _ _ _) (by simp [Value.oneCell']) (by unfold maxLen; omega) (by omega) (by have := hB.size; have := ext_size wr x; simp; omega) ?_; intro v' w1 hown' hgrow _; have HO' := Lib.hid hown'; have HG := Lib.hid hgrow; clear hown' hgrow))
        go_roundw
        case rel =>
          refine ⟨j + 1, by omega, by go_num, ?_, ?_⟩
          · rw [Hs.out]
            have := HO'.out
            simpa [ints] using this
          · have h1 := hB.trans ((ext_below wr x).mono hB.size)
            have hle : w.heap.size ≤ (ext wr x).heap.size := Nat.le_trans hB.size (ext_size wr x)
            exact (h1.alloc hle _).grown HG.out (by simp; omega) (ownBlock_le HO.out)
        case measure => simp [intOf]; omega
      · rw [if_neg ht] at hb hs
        have Ht := Lib.hid ht; clear ht
        have Hs := Lib.hid hs; clear hs
        have HO := Lib.hid hown; clear hown
        go_wp2_with (go_at_call 59; ((with_reducible refine (bit_any (X : Int) (j : Int) x0 x1 (by omega) (by omega) _).mono ?_); rintro e w' ⟨rfl, x, rfl⟩))
        go_roundw
        case rel => exact ⟨j + 1, by omega, by go_num, by rw [Hs.out]; exact ownsRow_ext _ HO.out, hB.trans ((ext_below _ _).mono hB.size)⟩
        case measure => simp [intOf]; omega
end Go.Proofs.Ytoibeflmldiehaa
