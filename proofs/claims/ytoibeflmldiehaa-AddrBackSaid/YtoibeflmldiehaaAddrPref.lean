/- AddrPrefixes walks to true. -/
import Derived.Test.YtoibeflmldiehaaAddrLaws
namespace Go.Proofs.Ytoibeflmldiehaa
open Go.RowKit

theorem and3 (n : Int) : ∃ L, bits .and .i64 n 3 = L ∧ 0 ≤ L ∧ L ≤ 3 := by
  have h : (BitVec.ofInt 64 n &&& BitVec.ofInt 64 3).toNat ≤ 3 := by
    rw [BitVec.toNat_and]
    exact Nat.le_trans Nat.and_le_right (by decide)
  refine ⟨_, rfl, ?_⟩
  show 0 ≤ IntKind.i64.wrap ((BitVec.ofInt 64 n &&& BitVec.ofInt 64 3).toNat : Int) ∧ _
  have e : bits .and .i64 n 3 = IntKind.i64.wrap ((BitVec.ofInt 64 n &&& BitVec.ofInt 64 3).toNat : Int) := rfl
  rw [e]
  generalize (BitVec.ofInt 64 n &&& BitVec.ofInt 64 3).toNat = m at *
  rw [IntWalk.i64_in _ (by omega)]
  omega

def sameB (a b : Int) (k : Nat) : Bool := (List.range k).all fun i => indexV a i == indexV b i
theorem sameB_succ (a b : Int) (k : Nat) : sameB a b (k + 1) = (sameB a b k && (indexV a k == indexV b k)) := by
  simp [sameB, List.range_succ, List.all_append]
theorem same_end (a b : Int) (L : Nat) (hL : L ≤ 3) (a0 : 0 ≤ a) (a1 : a < 34359738368) (b0 : 0 ≤ b) (b1 : b < 34359738368) : sameB a b (L + 1) = (prefixV a L == prefixV b L) := by
  rw [Bool.eq_iff_iff]
  rcases (by omega : L = 0 ∨ L = 1 ∨ L = 2 ∨ L = 3) with rfl | rfl | rfl | rfl <;> simp [sameB, List.range_succ, indexV, prefixV] <;> omega

theorem indexR_yes {p : Int} {k : Int} (h : p < 34359738368) (h0 : 0 ≤ k) (h1 : k ≤ 3) : indexR p k = .tuple #[.int .i64 (indexV p k), .int .i64 0] := by
  rw [indexR, if_pos (by simp [okPL]; omega)]
theorem prefixR_yes {p : Int} {k : Int} (h : p < 34359738368) (h0 : 0 ≤ k) (h1 : k ≤ 3) : prefixR p k = .tuple #[.int .u64 (prefixV p k), .int .i64 0] := by
  rw [prefixR, if_pos (by simp [okPL]; omega)]

set_option maxHeartbeats 1000000 in
theorem pref_core (a b level A B : Int) (L : Nat) (hA : a % 34359738368 = A) (hB : b % 34359738368 = B) (hl : bits .and .i64 level 3 = L) (L3 : L ≤ 3)
    (A0 : 0 ≤ A) (A1 : A < 34359738368) (B0 : 0 ≤ B) (B1 : B < 34359738368) (a0 : 0 ≤ a) (a5 : a < 18446744073709551616) (b0 : 0 ≤ b) (b5 : b < 18446744073709551616) (w : World) :
    Calls Try.prog 6 #[.int .u64 a, .int .u64 b, .int .i64 level] w fun e w' => e = .returned (.bool true) ∧ ∃ x, w' = ext w x := by
  have A2 : A < 18446744073709551616 := by omega
  have B2 : B < 18446744073709551616 := by omega
  have hpa := Lib.hid (prefixR_yes (p := A) (k := L) A1 (by omega) (by omega))
  have hpb := Lib.hid (prefixR_yes (p := B) (k := L) B1 (by omega) (by omega))
  go_enter Try.func6, Try.ntmps6
  go_wp2_with (first
    | (go_at_call 22; ((with_reducible refine (Prefix_to _ _ A0 A2 _ hpa.out _).mono ?_); rintro e w' ⟨rfl, x, rfl⟩))
    | (go_at_call 22; ((with_reducible refine (Prefix_to _ _ B0 B2 _ hpb.out _).mono ?_); rintro e w' ⟨rfl, x, rfl⟩)))
  go_loopw [11, 12, 13, 14, 15, 16] (fun s k i1 i2 i3 i4 wr => ∃ (j : Nat) (S : Bool), j ≤ L + 1 ∧ k = .int .i64 (j : Int) ∧ s = .bool S ∧ Hid (S = sameB A B j) ∧ ∃ y, wr = ext w y) (fun _ k _ _ _ _ _ => (5 - intOf k).toNat)
  case atStart => exact ⟨0, true, by omega, rfl, rfl, rfl, up_to⟩
  case round =>
    obtain ⟨j, S, hj, rfl, rfl, hS, y, rfl⟩ := hrel
    by_cases hj4 : j = L + 1
    · subst hj4
      have he := same_end A B L L3 A0 A1 B0 B1
      have HS : Hid (S = (prefixV A L == prefixV B L)) := by unfold Hid; rw [hS.out, he]
      clear he
      obtain ⟨P, hP⟩ : ∃ P, P = (prefixV A L == prefixV B L) := ⟨_, rfl⟩
      have hSP : S = P := by rw [HS.out, hP]
      subst hSP
      have t1 : decide (L + 1 ≤ L) = false := by simp
      have t2 : decide ((L : Int) + 1 ≤ L) = false := by simp; omega
      rw [eq_comm] at hP
      cases S
      all_goals
        go_wp2_with (go_at_call 26; refine (wakes2 _).mono ?_; rintro e w' ⟨rfl, x, rfl⟩)
        go_ret; exact ⟨rfl, up_to⟩
    · have hia := Lib.hid (indexR_yes (p := A) (k := j) A1 (by omega) (by omega))
      have hib := Lib.hid (indexR_yes (p := B) (k := j) B1 (by omega) (by omega))
      have hs := sameB_succ A B j
      rw [← hS.out] at hs
      have Hs := Lib.hid hs; clear hs
      have hjL : j ≤ L := by omega
      have t1 : decide (j ≤ L) = true := by simpa using hjL
      clear hj4
      obtain ⟨E, hE⟩ : ∃ E, (indexV A j == indexV B j) = E := ⟨_, rfl⟩
      cases S <;> cases E
      all_goals
        go_wp2_with (first
          | (go_at_call 20; ((with_reducible refine (Index_to _ _ A0 A2 _ hia.out _).mono ?_); rintro e w' ⟨rfl, x, rfl⟩))
          | (go_at_call 20; ((with_reducible refine (Index_to _ _ B0 B2 _ hib.out _).mono ?_); rintro e w' ⟨rfl, x, rfl⟩)))
        go_roundw
        case rel => exact ⟨j + 1, _, by omega, by go_num, rfl, by unfold Hid; rw [Hs.out, hE]; rfl, up_to⟩
        case measure => simp [intOf]; omega

theorem AddrPrefixes_walk (a b level : Int) (a1 : (Lit.int .u64 a).wf = true) (a2 : (Lit.int .u64 b).wf = true) (_ : (Lit.int .i64 level).wf = true) (w : World) :
    Calls Try.prog 6 #[.int .u64 a, .int .u64 b, .int .i64 level] w fun e w' => e = .returned (.bool true) ∧ ∃ x, w' = ext w x := by
  obtain ⟨a0, a5⟩ := bd_u64 a1
  obtain ⟨b0, b5⟩ := bd_u64 a2
  obtain ⟨L, hL, L0, L3⟩ := and3 level
  obtain ⟨M, rfl⟩ := Int.eq_ofNat_of_zero_le L0
  exact pref_core a b level _ _ M rfl rfl hL (by omega) (by omega) (by omega) (by omega) (by omega) a0 a5 b0 b5 w

theorem wordR_yes {f k : Int} (h0 : 0 ≤ f) (h1 : f ≤ 1048576) (h2 : 0 ≤ k) (h3 : k < 512) : wordR f k = .tuple #[.int .u64 (f * 512 + k), .int .i64 0] := by rw [wordR, if_pos ⟨h0, h1, h2, h3⟩]
theorem splitR_yes {f k : Int} (h0 : 0 ≤ f) (h1 : f ≤ 4096) (h2 : 0 ≤ k) (h3 : k < 512) : splitR (f * 512 + k) = .tuple #[.int .i64 f, .int .i64 k] := by
  have e1 : (f * 512 + k) / 512 = f := by omega
  have e2 : (f * 512 + k) % 512 = k := by omega
  rw [splitR, if_pos (by omega), e1, e2]

theorem mod4096 (x : Int) : ∃ X, (wrap64 (x.tmod 4096 + 4096)).tmod 4096 = X ∧ 0 ≤ X ∧ X < 4096 := by
  have h1 := Int.tmod_lt_of_pos x (b := 4096) (by decide)
  have h2 : -4096 < x.tmod 4096 := by
    have := Int.lt_tmod_of_pos x (b := 4096) (by decide)
    omega
  have e : wrap64 (x.tmod 4096 + 4096) = x.tmod 4096 + 4096 := by unfold wrap64; omega
  rw [e, Int.tmod_eq_emod_of_nonneg (by omega)]
  exact ⟨_, rfl, by omega, by omega⟩

set_option maxHeartbeats 2000000 in
theorem back_core (p pl fr P K F v wd i0 i1 i2 i3 : Int) (hP : p % 34359738368 = P) (hK : (wrap64 (pl.tmod 512 + 512)).tmod 512 = K) (hF : (wrap64 (fr.tmod 4096 + 4096)).tmod 4096 = F)
    (p0 : 0 ≤ p) (p5 : p < 18446744073709551616) (P0 : 0 ≤ P) (P2 : P < 18446744073709551616) (v0 : 0 ≤ v) (v1 : v < 18446744073709551616) (w0 : 0 ≤ wd) (w1 : wd < 18446744073709551616)
    (h1 : vaR P K = .tuple #[.int .u64 v, .int .i64 0]) (h2 : wordR F K = .tuple #[.int .u64 wd, .int .i64 0]) (h3 : splitR wd = .tuple #[.int .i64 F, .int .i64 K])
    (u1 : v / 140737488355328 = 0) (u2 : v % 8 = 0) (u3 : v / 4096 = P) (u4 : v / 8 % 512 = K)
    (j0 : indexR P 0 = .tuple #[.int .i64 i0, .int .i64 0]) (j1 : indexR P 1 = .tuple #[.int .i64 i1, .int .i64 0]) (j2 : indexR P 2 = .tuple #[.int .i64 i2, .int .i64 0]) (j3 : indexR P 3 = .tuple #[.int .i64 i3, .int .i64 0])
    (hf : fromR i0 i1 i2 i3 = .tuple #[.int .u64 P, .int .i64 0]) (w : World) :
    Calls Try.prog 14 #[.int .u64 p, .int .i64 pl, .int .i64 fr] w fun e w' => e = .returned (.bool true) ∧ ∃ x, w' = ext w x := by
  go_enter Try.func14, Try.ntmps14
  go_wp2_with (first
    | (go_at_call 40; ((with_reducible refine (Va_to _ _ P0 _ h1 _).mono ?_); rintro e w' ⟨rfl, x, rfl⟩))
    | (go_at_call 50; ((with_reducible refine (Word_to _ _ _ h2 _).mono ?_); rintro e w' ⟨rfl, x, rfl⟩))
    | (go_at_call 42; refine (User_any _ v0 v1 _).mono ?_; rintro e w' ⟨rfl, x, rfl⟩)
    | (go_at_call 44; refine (Aligned_any _ v0 v1 _).mono ?_; rintro e w' ⟨rfl, x, rfl⟩)
    | (go_at_call 46; refine (Page_any _ v0 v1 _).mono ?_; rintro e w' ⟨rfl, x, rfl⟩)
    | (go_at_call 48; refine (Place_any _ v0 v1 _).mono ?_; rintro e w' ⟨rfl, x, rfl⟩))
  refine wp_loop_rounds 5 ?_
  iterate 4
    rw [rounds_succ]
    go_wp2_with (first
      | (go_at_call 20; ((with_reducible refine (Index_to _ _ P0 P2 _ j0 _).mono ?_); rintro e w' ⟨rfl, x, rfl⟩))
      | (go_at_call 20; ((with_reducible refine (Index_to _ _ P0 P2 _ j1 _).mono ?_); rintro e w' ⟨rfl, x, rfl⟩))
      | (go_at_call 20; ((with_reducible refine (Index_to _ _ P0 P2 _ j2 _).mono ?_); rintro e w' ⟨rfl, x, rfl⟩))
      | (go_at_call 20; ((with_reducible refine (Index_to _ _ P0 P2 _ j3 _).mono ?_); rintro e w' ⟨rfl, x, rfl⟩)))
  rw [rounds_succ]
  go_wp2_with (first
    | (go_at_call 24; refine (From_to _ _ _ _ _ hf _).mono ?_; rintro e w' ⟨rfl, x, rfl⟩)
    | (go_at_call 52; refine (Split_to _ w0 w1 _ h3 _).mono ?_; rintro e w' ⟨rfl, x, rfl⟩)
    | (go_at_call 26; refine (wakes2 _).mono ?_; rintro e w' ⟨rfl, x, rfl⟩))
  go_ret; exact ⟨rfl, up_to⟩

theorem AddrBack_walk (p pl fr : Int) (a1 : (Lit.int .u64 p).wf = true) (_ : (Lit.int .i64 pl).wf = true) (_ : (Lit.int .i64 fr).wf = true) (w : World) :
    Calls Try.prog 14 #[.int .u64 p, .int .i64 pl, .int .i64 fr] w fun e w' => e = .returned (.bool true) ∧ ∃ x, w' = ext w x := by
  obtain ⟨p0, p5⟩ := bd_u64 a1
  obtain ⟨K, hK, K0, K1⟩ := mod512 pl
  obtain ⟨F, hF, F0, F1⟩ := mod4096 fr
  obtain ⟨P, hP⟩ : ∃ P, p % 34359738368 = P := ⟨_, rfl⟩
  have P0 : 0 ≤ P := by omega
  have P1 : P < 34359738368 := by omega
  refine back_core p pl fr P K F _ _ _ _ _ _ hP hK hF p0 p5 P0 (by omega) (by omega) (by omega) (by omega) (by omega) (vaR_yes P1 K0 K1) (wordR_yes F0 (by omega) K0 K1) (splitR_yes F0 (by omega) K0 K1)
    (by omega) (by omega) (by omega) (by omega) (indexR_yes P1 (by decide) (by decide)) (indexR_yes P1 (by decide) (by decide)) (indexR_yes P1 (by decide) (by decide)) (indexR_yes P1 (by decide) (by decide)) ?_ w
  have e : ((indexV P 0 * 512 + indexV P 1) * 512 + indexV P 2) * 512 + indexV P 3 = P := by simp [indexV]; omega
  rw [fromR, e, if_pos]
  simp [fromOk, indexV]; omega
end Go.Proofs.Ytoibeflmldiehaa
